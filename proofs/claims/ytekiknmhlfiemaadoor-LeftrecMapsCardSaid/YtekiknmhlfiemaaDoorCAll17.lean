/- Contracts of the program's functions. -/
import Derived.Test.YtekiknmhlfiemaaDoorCAll16
import Derived.Test.YtekiknmhlfiemaaDoorVAll5
import Derived.Test.YtekiknmhlfiemaaDoorCAll0
import Derived.Test.YtekiknmhlfiemaaDoorLibD
set_option linter.all false
namespace Go.Proofs.YtekiknmhlfiemaaDoor
open Go Go.Proofs.YtekiknmhlfiemaaDoor.GH

/-- What is known of n when rules before q, and of rule q the symbols before i, are done. -/
def Lf (g : Gram) (n : Int) (q i : Nat) : Prop := ∃ (q' : Nat) (r : Rule) (i' : Nat) (s : Sym), g.rules[q']? = some r ∧ r.left = n ∧ r.right[i']? = some s ∧ Ds g (r.right.take i') [] ∧ (∃ k, Walk (EdN g false) k (nodeI g s) (g.terms + n)) ∧ (q' < q ∨ (q' = q ∧ i' < i))

section
variable {g : Gram} {n : Int} {q i : Nat} {r : Rule}
theorem Lf.next {s : Sym} (hr : g.rules[q]? = some r) (hs : r.right[i]? = some s) : Lf g n q (i + 1) ↔ Lf g n q i ∨ (r.left = n ∧ Ds g (r.right.take i) [] ∧ ∃ k, Walk (EdN g false) k (nodeI g s) (g.terms + n)) := by
  unfold Lf
  constructor
  · rintro ⟨q', r', i', s', h1, h2, h3, h4, h5, h6⟩
    by_cases e : q' = q ∧ i' = i
    · obtain ⟨rfl, rfl⟩ := e
      rw [hr] at h1; cases h1
      rw [hs] at h3; cases h3
      exact .inr ⟨h2, h4, h5⟩
    · exact .inl ⟨q', r', i', s', h1, h2, h3, h4, h5, by omega⟩
  · rintro (⟨q', r', i', s', h1, h2, h3, h4, h5, h6⟩ | ⟨h1, h2, h3⟩)
    · exact ⟨q', r', i', s', h1, h2, h3, h4, h5, by omega⟩
    · exact ⟨q, r, i, s, hr, h1, hs, h2, h3, by omega⟩
theorem Lf.nextQ (hr : g.rules[q]? = some r) (hi : r.right.length ≤ i) : Lf g n (q + 1) 0 ↔ Lf g n q i := by
  unfold Lf
  constructor
  · rintro ⟨q', r', i', s', h1, h2, h3, h4, h5, h6⟩
    refine ⟨q', r', i', s', h1, h2, h3, h4, h5, ?_⟩
    by_cases e : q' = q
    · subst e
      rw [hr] at h1; cases h1
      have := (List.getElem?_eq_some_iff.1 h3).1
      omega
    · omega
  · rintro ⟨q', r', i', s', h1, h2, h3, h4, h5, h6⟩
    exact ⟨q', r', i', s', h1, h2, h3, h4, h5, by omega⟩
theorem Lf.fin (hv : Valid g) (hn : 0 ≤ n) : Lf g n g.rules.length 0 ↔ OnLoop (Edge g false) n := by
  unfold Lf
  constructor
  · rintro ⟨q', r', i', s', h1, rfl, h3, h4, ⟨k, h5⟩, _⟩
    refine ⟨k, (walk_edn hv hn).1 (Walk.cons ⟨r', List.mem_of_getElem? h1, i', s', h3, by simpa using h4, rfl, rfl⟩ h5)⟩
  · rintro ⟨k, h⟩
    obtain ⟨c, ⟨r', hr', i', s', h3, h4, h5, rfl⟩, h2⟩ := ((walk_edn hv hn).2 h).head
    obtain ⟨q', hq⟩ := List.getElem?_of_mem hr'
    exact ⟨q', r', i', s', hq, by omega, h3, by simpa using h4, ⟨k, h2⟩, .inl (List.getElem?_eq_some_iff.1 hq).1⟩
end

def LfPost (L : GHeap) (g : Gram) (v : Value) (L' : GHeap) : Prop :=
  Le L L' ∧ ∃ (so : Sl) (p : Nat → Bool), v = .slice so.a so.n so.c ∧ IsSl rI L' so (((List.range g.nons.toNat).filter p).map fun n : Nat => (n : Int)) ∧ ∀ n : Nat, n < g.nons.toNat → (p n = true ↔ OnLoop (Edge g false) n)

section
variable {L : GHeap} {g : Gram} {sg : Sl}

theorem LeftOf_spec {lens : List Int} (hv : Valid g) (hln : LenSpec g lens) (hs : IsSl rRule L sg g.rules) : ACalls PP parlref2_LeftOf.id [gramV g sg] L (LfPost L g) := by
  have ht := hv.terms
  have hnn := hv.nons
  have hmany := hv.many
  have hsgn := hs.n
  have hnu := hln.null
  apply parlref2_LeftOf.go
  refine (Nulls_spec hv hln hs).mono ?_
  rintro v L1 ⟨hle1, sn, rfl, hn⟩
  refine ⟨sn, rfl, (Edges_spec hv hln (hs.mono hle1.toLeM)).mono ?_⟩
  rintro v L2 ⟨hle2, sm, m, rfl, hm, hT, hA⟩
  have h02 := hle1.trans hle2
  have hs2 := hs.mono h02.toLeM
  have hn2 := hn.mono hle2.toLeM
  generalize (lens.map fun k => k == 0) = null at *
  have hnl := hnu.1
  refine ⟨sm, rfl, ?_⟩
  have key : ∀ n, n ≤ g.nons.toNat → ∀ (p : Nat → Bool), (∀ n' : Nat, n' < n → (p n' = true ↔ OnLoop (Edge g false) n')) → ∀ (L3 : GHeap) (so : Sl), Le L2 L3 → Own L2 rI L3 so (((List.range n).filter p).map fun n : Nat => (n : Int)) →
      parlref2_LeftOf.c4 (LfPost L g) sn sm so g.nons ((n : Nat) : Int) g.terms g.nons g.start sg L3 := by
    refine down ?_ ?_
    · intro p hp L3 so hle ho
      apply parlref2_LeftOf.go4
      exact bcD (fun h => absurd h (by omega)) fun _ => ⟨h02.trans hle, so, p, rfl, ho.sl, hp⟩
    · intro n hn' ih p hp L3 so hle ho
      apply parlref2_LeftOf.go4
      refine bcD (fun _ => ?_) fun h => absurd (by omega) h
      have rules : ∀ q, q ≤ g.rules.length → ∀ (is_ : Bool) (L4 : GHeap), Le L3 L4 → (is_ = true ↔ Lf g n q 0) → parlref2_LeftOf.c8 (LfPost L g) sn sm so ((n : Nat) : Int) is_ g.nons ((n : Nat) : Int) sg ((sg.n : Nat) : Int) ((q : Nat) : Int) g.terms g.nons g.start sg L4 := by
        refine down ?_ ?_
        · intro is_ L4 hle4 hi
          rw [Lf.fin hv (by omega)] at hi
          apply parlref2_LeftOf.go8
          refine bcD (fun h => absurd h (by omega)) fun _ => ?_
          have hpr : (List.range (n + 1)).filter (fun k => if k = n then is_ else p k) = (List.range n).filter p ++ if is_ = true then [n] else [] := by
            rw [List.range_succ, List.filter_append]
            congr 1
            · refine List.filter_congr fun x hx => ?_
              have := List.mem_range.1 hx
              rw [if_neg (by omega)]
            · rw [List.filter_cons]; simp
          have fin : ∀ (L5 : GHeap) (so' : Sl), Le L2 L5 → Own L2 rI L5 so' (((List.range (n + 1)).filter (fun k => if k = n then is_ else p k)).map fun n : Nat => (n : Int)) →
              parlref2_LeftOf.c18 (LfPost L g) sn sm so' g.nons ((n : Nat) : Int) g.terms g.nons g.start sg L5 := by
            intro L5 so' h5 ho5
            apply parlref2_LeftOf.go18
            unfold parlref2_LeftOf.t18
            rw [add_one (by omega)]
            refine ih _ (fun n' hn'' => ?_) L5 so' h5 ho5
            by_cases e : n' = n
            · subst e; rw [if_pos rfl]; exact hi
            · rw [if_neg e]; exact hp n' (by omega)
          rw [hpr, List.map_append] at fin
          have hlen := List.length_filter_le p (List.range n)
          rw [List.length_range] at hlen
          refine bcI (fun h => ?_) fun h => ?_
          · rw [if_pos h] at fin
            refine Own.append (R := rI) (bytes := 8) (m := 1) (ys := [((n : Nat) : Int)]) (ho.mono hle4) (hle.trans hle4) (Cells.cons (c := [.int .i64 ((n : Nat) : Int)]) rfl .nil) rfl (.inl (by rw [List.length_map]; omega)) fun so' L5 g1 _ g3 _ _ => fin L5 so' g1 g3
          · rw [if_neg (by rw [h]; simp), List.map_nil, List.append_nil] at fin
            exact fin L4 so (hle.trans hle4) (ho.mono hle4)
        · intro q hq ihq is_ L4 hle4 hi
          have hqr := List.getElem?_eq_getElem hq
          have hrm := List.getElem_mem hq
          generalize g.rules[q] = r at *
          have hok := (hv.ok r hrm).1
          have hr4 := (hv.ok r hrm).2
          apply parlref2_LeftOf.go8
          refine bcD (fun _ => ?_) fun h => absurd (by omega) h
          refine (hs2.mono (hle.trans hle4).toLeM).get hqr fun a1 cs1 hK1 hc1 => ?_
          obtain ⟨sr, rfl, hsr⟩ := hK1
          have hrn := hsr.n
          have hrc := hsr.c
          refine ⟨_, sr, hc1, ?_⟩
          have syms : ∀ i, i ≤ r.right.length → ∀ (is_ : Bool) (L5 : GHeap), Le L4 L5 → (is_ = true ↔ Lf g n q i) → parlref2_LeftOf.c11 (LfPost L g) sn sm so ((n : Nat) : Int) is_ g.nons ((n : Nat) : Int) sg ((sg.n : Nat) : Int) ((q : Nat) : Int) sr ((sr.n : Nat) : Int) ((i : Nat) : Int) g.terms g.nons g.start sg r.left sr L5 := by
            refine down ?_ ?_
            · intro is_ L5 hle5 hi5
              apply parlref2_LeftOf.go11
              refine bcD (fun h => absurd h (by omega)) fun _ => ?_
              rw [add_one (by omega)]
              exact ihq is_ L5 (hle4.trans hle5) (hi5.trans (Lf.nextQ hqr (Nat.le_refl _)).symm)
            · intro i hi' ihi is_ L5 hle5 hi5
              have hxi := List.getElem?_eq_getElem hi'
              have hsok := hok.right _ (List.getElem_mem hi')
              generalize r.right[i] = s at *
              have hnx := Lf.next (n := (n : Int)) hqr hxi
              have next : ∀ (b : Bool) (L6 : GHeap), Le L5 L6 → (b = true ↔ Lf g n q (i + 1)) → parlref2_LeftOf.c14 (LfPost L g) sn sm so ((n : Nat) : Int) b g.nons ((n : Nat) : Int) sg ((sg.n : Nat) : Int) ((q : Nat) : Int) sr ((sr.n : Nat) : Int) ((i : Nat) : Int) g.terms g.nons g.start sg r.left sr L6 := by
                intro b L6 h6 hb
                apply parlref2_LeftOf.go14
                unfold parlref2_LeftOf.t14
                rw [add_one (by omega)]
                exact ihi b L6 (hle5.trans h6) hb
              apply parlref2_LeftOf.go11
              refine bcD (fun _ => ?_) fun h => absurd (by omega) h
              refine (hsr.mono hle5.toLeM).get hxi fun a2 cs2 hK2 hc2 => ?_
              obtain rfl := hK2
              refine ⟨_, _, hc2, bcI (fun h1 => next true L5 (.refl _) ⟨fun _ => hnx.2 (.inl (hi5.1 h1)), fun _ => rfl⟩) fun h1 => ?_⟩
              have hno : ¬ Lf g n q i := fun h => by rw [hi5.2 h] at h1; cases h1
              refine bcE (fun el => ?_) fun el => next false L5 (.refl _) ⟨fun h => (by cases h), fun h => (hnx.1 h).elim (fun h => absurd h hno) fun h => absurd h.1 el⟩
              rw [Int.toNat_natCast]
              have htk : ∀ s ∈ r.right.take i, SymOk g.terms g.nons s := fun s hs' => hok.right s (List.mem_of_mem_take hs')
              have h25 := (hle.trans hle4).trans hle5
              refine ⟨⟨by omega, by omega⟩, (empty_spec (sl := ⟨sr.a, i, sr.c⟩) (null := null) (l := r.right.take i) (hn2.mono h25.toLeM) ((hsr.mono hle5.toLeM).take (by omega)) (fun s hs' hst => by have h := htk s hs'; have := h.2.2 hst; exact ⟨h.1, by omega⟩) (by rw [List.length_take]; omega)).mono ?_⟩
              rintro v L6 ⟨rfl, hle6⟩
              refine ⟨_, rfl, bcI (fun h2 => ?_) fun h2 => next false L6 hle6 ⟨fun h => (by cases h), fun h => (hnx.1 h).elim (fun h => absurd h hno) fun h => ?_⟩⟩
              · have hds := (all_emp hnu htk).1 h2
                have hnb := nodeI_bound hv hsok
                refine (node_ro (sg := sg) (s := s) ⟨by omega, by omega⟩ ⟨hsok.1, by
                  cases h : s.term with
                  | true => have := hsok.2.1 h; omega
                  | false => have := hsok.2.2 h; omega⟩).use ⟨_, rfl, ?_⟩
                obtain ⟨row, v, r1, r2, r3, r4⟩ := hT.get (i := (nodeI g s).toNat) (j := (g.terms + n).toNat) (by omega) (by omega)
                refine (hm.mono (h25.trans hle6).toLeM).getI hnb.1 r1 fun a4 cs4 hK4 hc4 => ?_
                obtain ⟨s4, rfl, hs4⟩ := hK4
                refine ⟨s4, reads_one hc4, ?_⟩
                rw [w64_in (by omega) (by omega)]
                refine hs4.getI (by omega) r2 fun a5 cs5 hK5 hc5 => ?_
                obtain rfl := hK5
                refine ⟨_, reads_one hc5, next v L6 hle6 ?_⟩
                have h7 := hA (nodeI g s).toNat (g.terms + n).toNat (by omega) (by omega)
                rw [r4, Int.toNat_of_nonneg hnb.1, Int.toNat_of_nonneg (by omega)] at h7
                rw [h7, hnx]
                exact ⟨fun h => .inr ⟨el, hds, h⟩, fun h => h.elim (fun h => absurd h hno) fun h => h.2.2⟩
              · rw [(all_emp hnu htk).2 h.2.1] at h2; cases h2
          exact syms 0 (Nat.zero_le _) is_ L4 (.refl _) hi
      exact rules 0 (Nat.zero_le _) false L3 (.refl _) ⟨fun h => (by cases h), fun ⟨q', _, i', _, _, _, _, _, _, h⟩ => by omega⟩
  exact key 0 (Nat.zero_le _) (fun _ => false) (fun n' h => absurd h (Nat.not_lt_zero _)) L2 ⟨none, 0, 0⟩ (.refl _) (.nil _ _ _)
end
end Go.Proofs.YtekiknmhlfiemaaDoor

namespace Go.Proofs.YtekiknmhlfiemaaDoor
open Go Go.Proofs.YtekiknmhlfiemaaDoor.GH

/-- A digit, as a string. -/
def digB (n : Int) : ByteArray := (ByteArray.mk #[48, 49, 50, 51, 52, 53, 54, 55, 56, 57, 97, 98, 99, 100, 101, 102, 103, 104, 105, 106, 107, 108, 109, 110, 111, 112, 113, 114, 115, 116, 117, 118, 119, 120, 121, 122]).extract (Int.toNat n) (Int.toNat n + 1)
def digL (n : Int) : List UInt8 := [UInt8.ofNat (48 + n.toNat)]

theorem digB_list {n : Int} (h0 : 0 ≤ n) (h1 : n < 10) : (digB n).data.toList = digL n := by
  obtain ⟨k, rfl⟩ : ∃ k : Nat, n = (k : Int) := ⟨n.toNat, by omega⟩
  have hk : k < 10 := by omega
  match k, hk with
  | 0, _ => rfl
  | 1, _ => rfl
  | 2, _ => rfl
  | 3, _ => rfl
  | 4, _ => rfl
  | 5, _ => rfl
  | 6, _ => rfl
  | 7, _ => rfl
  | 8, _ => rfl
  | 9, _ => rfl
theorem digB_size {n : Int} (h0 : 0 ≤ n) (h1 : n < 10) : (digB n).size = 1 := by
  have := congrArg List.length (digB_list h0 h1)
  rw [Array.length_toList] at this
  exact this

theorem small_ro {L : GHeap} {n : Int} (h0 : 0 ≤ n) (h1 : n < 10) : RO PP internal_strconv_small.id [.int .i64 n] L (.string (digB n)) := by
  apply internal_strconv_small.go
  unfold internal_strconv_small.t
  have e : w64 (n + 1) = n + 1 := w64_in (by omega) (by omega)
  rw [e]
  refine bcD (fun _ => ⟨⟨by omega, ?_⟩, ⟨by omega, by omega⟩, ?_, rfl⟩) fun h => absurd h1 h
  · show n + 1 ≤ ((36 : Nat) : Int); omega
  · unfold digB
    have : Int.toNat (n + 1) = Int.toNat n + 1 := by omega
    rw [this]

theorem Itoa_ro {L : GHeap} {n : Int} (h0 : 0 ≤ n) (h1 : n < 10) : RO PP strconv_Itoa.id [.int .i64 n] L (.string (digB n)) := by
  apply strconv_Itoa.go
  unfold strconv_Itoa.t
  have h2 : RO PP internal_strconv_FormatInt.id [.int .i64 n, .int .i64 10] L (.string (digB n)) := by
    apply internal_strconv_FormatInt.go
    unfold internal_strconv_FormatInt.t
    refine bcT (by simp) (bcD (fun _ => bcD (fun _ => (small_ro h0 h1).use ⟨_, rfl, rfl, rfl⟩) fun h => absurd (by omega) h) fun h => absurd h0 h)
  have h3 : RO PP internal_strconv_Itoa.id [.int .i64 n] L (.string (digB n)) := by
    apply internal_strconv_Itoa.go
    unfold internal_strconv_Itoa.t
    exact h2.use ⟨_, rfl, rfl, rfl⟩
  exact h3.use ⟨_, rfl, rfl, rfl⟩

/-- What is put behind a key for a symbol. -/
def keyS (out : ByteArray) (s : Sym) : ByteArray := (if s.term = true then out ++ ByteArray.mk #[116] else out) ++ (digB s.n ++ ByteArray.mk #[44])
def keyB (r : Rule) : ByteArray := r.right.foldl keyS (digB r.left ++ ByteArray.mk #[58])
def symL (s : Sym) : List UInt8 := (if s.term = true then [116] else []) ++ (digL s.n ++ [44])

theorem keyS_list {out : ByteArray} {s : Sym} (h0 : 0 ≤ s.n) (h1 : s.n < 10) : (keyS out s).data.toList = out.data.toList ++ symL s := by
  unfold keyS symL
  split <;> simp [ByteArray.data_append, digB_list h0 h1]
theorem keyF_list : ∀ (ss : List Sym) (out : ByteArray), (∀ s ∈ ss, 0 ≤ s.n ∧ s.n < 10) → (ss.foldl keyS out).data.toList = out.data.toList ++ ss.flatMap symL
  | [], out, _ => by simp
  | s :: ss, out, h => by
    obtain ⟨h0, h1⟩ := h s (List.mem_cons_self ..)
    rw [List.foldl_cons, keyF_list ss _ fun x hx => h x (List.mem_cons_of_mem _ hx), keyS_list h0 h1, List.flatMap_cons, List.append_assoc]

structure Small (r : Rule) : Prop where
  left : 0 ≤ r.left ∧ r.left < 10
  right : ∀ s ∈ r.right, 0 ≤ s.n ∧ s.n < 10
  len : r.right.length ≤ 4

theorem keyB_list {r : Rule} (h : Small r) : (keyB r).data.toList = digL r.left ++ [58] ++ r.right.flatMap symL := by
  unfold keyB
  rw [keyF_list _ _ h.right]
  simp [ByteArray.data_append, digB_list h.left.1 h.left.2]

theorem dig_inj {m n : Int} (h0 : 0 ≤ m ∧ m < 10) (h1 : 0 ≤ n ∧ n < 10) (h : UInt8.ofNat (48 + m.toNat) = UInt8.ofNat (48 + n.toNat)) : m = n := by
  have := congrArg UInt8.toNat h
  simp only [UInt8.toNat_ofNat'] at this
  omega
theorem dig_ne {m : Int} (h0 : 0 ≤ m ∧ m < 10) : UInt8.ofNat (48 + m.toNat) ≠ 116 := by
  intro h
  have := congrArg UInt8.toNat h
  simp only [UInt8.toNat_ofNat'] at this
  have e : UInt8.toNat 116 = 116 := rfl
  omega

theorem syms_inj : ∀ {xs ys : List Sym}, (∀ s ∈ xs, 0 ≤ s.n ∧ s.n < 10) → (∀ s ∈ ys, 0 ≤ s.n ∧ s.n < 10) → xs.flatMap symL = ys.flatMap symL → xs = ys
  | [], [], _, _, _ => rfl
  | [], y :: ys, _, _, h => by simp [symL, digL] at h
  | x :: xs, [], _, _, h => by simp [symL, digL] at h
  | ⟨xt, xn⟩ :: xs, ⟨yt, yn⟩ :: ys, hx, hy, h => by
    have x0 := hx _ (List.mem_cons_self ..)
    have y0 := hy _ (List.mem_cons_self ..)
    have rest := syms_inj (xs := xs) (ys := ys) (fun s hs => hx s (List.mem_cons_of_mem _ hs)) (fun s hs => hy s (List.mem_cons_of_mem _ hs))
    cases xt <;> cases yt <;> simp only [List.flatMap_cons, symL, digL, if_true, List.singleton_append, List.nil_append, List.cons_append, List.cons.injEq, Bool.false_eq_true, if_false] at h
    · obtain ⟨a, _, c⟩ := h
      have hd : xn = yn := dig_inj x0 y0 a
      rw [hd, rest c]
    · exact absurd h.1 (dig_ne x0)
    · exact absurd h.1.symm (dig_ne y0)
    · obtain ⟨_, a, _, c⟩ := h
      have hd : xn = yn := dig_inj x0 y0 a
      rw [hd, rest c]

theorem keyB_inj {r q : Rule} (h : Small r) (h' : Small q) (e : keyB r = keyB q) : r = q := by
  have e2 : (keyB r).data.toList = (keyB q).data.toList := by rw [e]
  rw [keyB_list h, keyB_list h'] at e2
  simp only [digL, List.singleton_append, List.cons_append, List.nil_append, List.cons.injEq] at e2
  obtain ⟨a, _, c⟩ := e2
  obtain ⟨l, rr⟩ := r
  obtain ⟨l', rr'⟩ := q
  have := dig_inj h.left h'.left a
  have := syms_inj h.right h'.right c
  simp only at *
  subst_vars; rfl

theorem symL_len (s : Sym) : (symL s).length ≤ 3 := by unfold symL digL; split <;> simp
theorem syms_len : ∀ ss : List Sym, (ss.flatMap symL).length ≤ 3 * ss.length
  | [] => by simp
  | s :: ss => by
    have a := symL_len s
    have b := syms_len ss
    simp only [List.flatMap_cons, List.length_append, List.length_cons]; omega

theorem keyB_size {r : Rule} (h : Small r) : (keyB r).size ≤ 2 + 3 * r.right.length := by
  have := congrArg List.length (keyB_list h)
  rw [Array.length_toList] at this
  have e : (keyB r).size = (keyB r).data.size := rfl
  have := syms_len r.right
  simp only [digL, List.length_append, List.length_singleton] at *
  omega

theorem key_ro {L : GHeap} {sr : Sl} {r : Rule} (hr : IsSl rSym L sr r.right) (h : Small r) : RO PP parlref2_key.id [.agg #[.int .i64 r.left, .slice sr.a sr.n sr.c]] L (.string (keyB r)) := by
  have hmax : ((9223372036854775807 : Nat) : Int) = IntKind.i64.max := by rfl
  apply parlref2_key.go
  unfold parlref2_key.t
  refine (Itoa_ro h.left.1 h.left.2).use ⟨_, rfl, ?_, ?_⟩
  · rw [digB_size h.left.1 h.left.2, ← hmax]
    show ((1 + 1 : Nat) : Int) ≤ _
    omega
  have key : ∀ i, i ≤ r.right.length → parlref2_key.c3 (fun u L' => u = Value.string (keyB r) ∧ L' = L) ((r.right.take i).foldl keyS (digB r.left ++ ByteArray.mk #[58])) sr ((sr.n : Nat) : Int) ((i : Nat) : Int) L := by
    refine down ?_ ?_
    · rw [List.take_length]
      apply parlref2_key.go3
      exact bcD (fun h => absurd h (by rw [hr.n]; omega)) fun _ => ⟨rfl, rfl⟩
    · intro i hi ih
      rw [List.take_succ_eq_append_getElem hi, List.foldl_append, List.foldl_cons, List.foldl_nil] at ih
      obtain ⟨y0, y1⟩ := h.right _ (List.getElem_mem hi)
      have hsz := keyB_size (r := ⟨r.left, r.right.take i⟩) ⟨h.left, fun s hs => h.right s (List.mem_of_mem_take hs), by have := h.len; simp only [List.length_take]; omega⟩
      have hl4 := h.len
      have hsz : ((r.right.take i).foldl keyS (digB r.left ++ ByteArray.mk #[58])).size ≤ 2 + 3 * (r.right.take i).length := hsz
      rw [List.length_take] at hsz
      generalize (r.right.take i).foldl keyS (digB r.left ++ ByteArray.mk #[58]) = out at ih hsz ⊢
      apply parlref2_key.go3
      refine bcD (fun _ => ?_) fun h => absurd (by rw [hr.n]; omega) h
      refine hr.get (List.getElem?_eq_getElem hi) fun a cs hK hc => ?_
      obtain rfl := hK
      have c7 : ∀ o : ByteArray, o.size ≤ 100 → keyS out r.right[i] = o ++ (digB r.right[i].n ++ ByteArray.mk #[44]) → parlref2_key.c7 (fun u L' => u = Value.string (keyB r) ∧ L' = L) o sr ((sr.n : Nat) : Int) ((i : Nat) : Int) r.right[i].term r.right[i].n L := by
        intro o ho e
        have hds := digB_size y0 y1
        apply parlref2_key.go7
        refine (Itoa_ro y0 y1).use ⟨_, rfl, ?_, ?_, ?_⟩
        · rw [hds, ← hmax]
          show ((1 + 1 : Nat) : Int) ≤ _
          omega
        · rw [ByteArray.size_append, hds, ← hmax]
          show ((o.size + (1 + 1) : Nat) : Int) ≤ _
          omega
        · apply parlref2_key.go8
          unfold parlref2_key.t8
          rw [add_one (by omega), ← e]
          exact ih
      refine ⟨_, _, hc, ?_⟩
      have e116 : (ByteArray.mk #[116]).size = 1 := rfl
      refine bcI (fun ht => ⟨?_, c7 _ ?_ ?_⟩) fun ht => c7 _ (by omega) ?_
      · rw [e116, ← hmax]; omega
      · rw [ByteArray.size_append, e116]; omega
      · unfold keyS; rw [if_pos ht]
      · unfold keyS; rw [if_neg (by simpa using ht)]
  exact key 0 (Nat.zero_le _)
end Go.Proofs.YtekiknmhlfiemaaDoor

