/- Contracts of the program's functions. -/
import Derived.Test.YtjmpheidcofhnaaDoorVAll3
import Derived.Test.YtjmpheidcofhnaaDoorLibD
import Derived.Test.YtjmpheidcofhnaaDoorCAll10
set_option linter.all false
namespace Go.Proofs.YtjmpheidcofhnaaDoor
open Go Go.Proofs.YtjmpheidcofhnaaDoor.GH

theorem CloneInt_spec {L : GHeap} {s : Sl} {xs : List Int} (hs : IsSl rI L s xs) (hb : xs.length ≤ 1048576) :
    ACalls PP slices_Clone_int_int.id [.slice s.a s.n s.c] L fun v L' => ∃ (s' : Sl) (M : Nat → Prop), v = .slice s'.a s'.n s'.c ∧ Le L (L'.off M) ∧ PA (Value.int .i64) L L' M s' xs := by
  apply slices_Clone_int_int.go
  refine bcI (fun h => ⟨⟨none, 0, 0⟩, fun _ => False, rfl, by rw [off_empty]; exact .refl L, ?_⟩) fun h => ?_
  · have : xs = [] := by
      cases xs with
      | nil => rfl
      | cons x xs => obtain ⟨a, _, h1, _⟩ := hs.at_ 0 x rfl; rw [h1] at h; cases h
    rw [this]; exact PA.empty _ _ _
  · intro b5 hu
    simp only [inL]
    have hle : Le L (L.alloc b5 [] 0) := Le.alloc hu _ _
    obtain ⟨cs, hc, hr⟩ := (hs.mono hle.toLeM).cells
    refine ⟨cs, ⟨hr, hc.one⟩, ?_⟩
    have hn := hs.n
    have hl := hc.length
    refine ⟨⟨by simp only; omega, fun h0 => ?_⟩, fun h0 => ?_, fun h0 => ?_⟩
    · simp only at h0 ⊢
      unfold Builtin.nextslicecap
      rw [if_pos (by omega)]; omega
    · simp only at h0
      have h0 : s.n = 0 := by omega
      have : xs = [] := List.eq_nil_of_length_eq_zero (by omega)
      refine .inl ⟨h0, ⟨some ⟨b5, 0, none⟩, 0, 0⟩, fun _ => False, rfl, by rw [off_empty]; exact hle, ?_⟩
      rw [this]; exact PA.empty _ _ _
    · simp only [Nat.zero_add] at h0 ⊢
      refine ⟨[], ⟨rfl, trivial⟩, fun b c' hub hc' => ?_⟩
      rw [List.nil_append, Nat.mul_one]
      have hub0 := hle.toLeM.unused hub
      refine ⟨⟨some ⟨b, 0, none⟩, s.n, c'⟩, (· = b), rfl, by rw [alloc_off1 hub]; exact hle, hn, hc', fun b' hb' => by rw [hb']; exact hub0, fun _ => ⟨b, rfl, rfl, fun i x hx => ?_, fun i hi => ?_⟩, fun h => by simp only at h; omega⟩
      · obtain ⟨c1, hc1, hc2⟩ := hc.get i x hx
        obtain rfl := hc1
        rw [alloc_mem]
        have := hc2 0 _ rfl
        rwa [show i * rI.sz + 0 = i from by show i * 1 + 0 = i; omega] at this
      · unfold GHeap.alloc; simp only [if_true]; exact ⟨trivial, hi⟩

end Go.Proofs.YtjmpheidcofhnaaDoor

namespace Go.Proofs.YtjmpheidcofhnaaDoor
open Go Go.Proofs.YtjmpheidcofhnaaDoor.GH

theorem foldl_take_succ {α β : Type} (f : β → α → β) (b : β) {xs : List α} {i : Nat} (h : i < xs.length) : (xs.take (i + 1)).foldl f b = f ((xs.take i).foldl f b) xs[i] := by
  rw [List.take_succ_eq_append_getElem h, List.foldl_append]; rfl

theorem lnS_length {out nx : List Int} {r : Rule} : (lnS out nx r).length = nx.length := by unfold lnS; split <;> simp
theorem fold_length {out : List Int} : ∀ (rs : List Rule) (nx : List Int), (rs.foldl (lnS out) nx).length = nx.length
  | [], _ => rfl
  | r :: rs, nx => by rw [List.foldl_cons, fold_length rs, lnS_length]
theorem rnds_length {g : Gram} : ∀ k, (rnds g k).length = g.nons.toNat
  | 0 => by simp [rnds]
  | k + 1 => by unfold rnds rnd; rw [fold_length]; exact rnds_length k

/-- The number of a scan, -1 where it failed. -/
def lenQ (out : List Int) (ss : List Sym) (n : Int) : Int := if n < 0 then -1 else lenR out ss n

theorem LengthsOf_go {Lb : GHeap} {g : Gram} {sg : Sl} (hv : Valid g) (hs : IsSl rRule Lb sg g.rules) {K : Value → GHeap → Prop} (hK : ∀ L' (so : Sl), Le Lb L' → IsSl rI L' so (rnds g g.nons.toNat) → K (.slice so.a so.n so.c) L') :
    ∀ k, k ≤ g.nons.toNat → ∀ (Lk : GHeap) (so : Sl), Le Lb Lk → IsSl rI Lk so (rnds g k) → (∀ v ∈ rnds g k, v ≤ ((4 ^ k : Nat) : Int)) → parlref2_LengthsOf.c3 K so g.nons ((k : Nat) : Int) g.terms g.nons g.start sg Lk := by
  have hnn := hv.nons
  have hmany := hv.many
  refine down ?_ ?_
  · intro Lk so hle ho _
    apply parlref2_LengthsOf.go3
    exact bcD (fun h => absurd h (by omega)) fun _ => hK Lk so hle ho
  · intro k hk ih Lk so hle ho hbd
    have hol := rnds_length (g := g) k
    have hp4 : 4 ^ k ≤ 16777216 := pow4_le (by omega)
    have hp1 : 1 ≤ 4 ^ k := Nat.pow_pos (by omega)
    have hp5 : (4 : Nat) ^ (k + 1) = 4 * 4 ^ k := by rw [Nat.pow_succ]; omega
    apply parlref2_LengthsOf.go3
    refine bcD (fun _ => ?_) fun h => absurd (by omega) h
    refine (CloneInt_spec ho (by omega)).mono ?_
    rintro v L1 ⟨sn, M, rfl, hle1, hpa1⟩
    refine ⟨sn, rfl, ?_⟩
    have hsLk := hs.mono hle.toLeM
    have rules : ∀ i, i ≤ g.rules.length → ∀ (L2 : GHeap), PA (Value.int .i64) Lk L2 M sn ((g.rules.take i).foldl (lnS (rnds g k)) (rnds g k)) → Le Lk (L2.off M) → (∀ v ∈ (g.rules.take i).foldl (lnS (rnds g k)) (rnds g k), v ≤ ((4 ^ (k + 1) : Nat) : Int)) →
        parlref2_LengthsOf.c6 K so sn g.nons ((k : Nat) : Int) sg ((sg.n : Nat) : Int) ((i : Nat) : Int) g.terms g.nons g.start sg L2 := by
      refine down ?_ ?_
      · intro L2 hpa hle2 hb2
        rw [List.take_length] at hpa hb2
        have hs2 := hsLk.n
        apply parlref2_LengthsOf.go6
        refine bcD (fun h => absurd h (by omega)) fun _ => ?_
        rw [add_one (by omega)]
        exact ih L2 sn (hle.trans (hpa.le hle2)) hpa.isInt hb2
      · intro i hi ihi L2 hpa hle2 hb2
        rw [foldl_take_succ _ _ hi] at ihi
        generalize hnx : (g.rules.take i).foldl (lnS (rnds g k)) (rnds g k) = nx at *
        have hnl : nx.length = g.nons.toNat := by rw [← hnx, fold_length]; exact hol
        have hL2 : LeM Lk L2 := hle2.toLeM.trans off_le
        have hs2 := hsLk.mono hL2
        have ho2 := ho.mono hL2
        obtain ⟨⟨hl, hrt⟩, hlen⟩ := hv.ok _ (List.getElem_mem hi)
        have hnt := nt_ok hv (List.getElem_mem hi)
        have hsn := hs2.n
        apply parlref2_LengthsOf.go6
        refine bcD (fun _ => ?_) fun h => absurd (by omega) h
        refine hs2.get (List.getElem?_eq_getElem hi) fun a cs hK' hc => ?_
        obtain ⟨sr, rfl, hsr⟩ := hK'
        refine ⟨_, _, hc, ?_⟩
        have hlt : g.rules[i].left.toNat < nx.length := by omega
        have hget := List.getElem?_eq_getElem hlt
        have hat := atI_get hget
        have hLb : lenR (rnds g k) g.rules[i].right 0 ≤ ((4 ^ (k + 1) : Nat) : Int) := by
          have := lenR_bound (B := ((4 ^ k : Nat) : Int)) (by omega) hbd (ss := g.rules[i].right) (n := 0) (fun s h1 h2 => by have := hnt s h1 h2; exact ⟨this.1, by omega⟩) (by omega)
          have h4 : (g.rules[i].right.length : Int) * ((4 ^ k : Nat) : Int) ≤ 4 * ((4 ^ k : Nat) : Int) := Int.mul_le_mul_of_nonneg_right (by omega) (by omega)
          rw [hp5]; omega
        have next : ∀ L3, PA (Value.int .i64) Lk L3 M sn (lnS (rnds g k) nx g.rules[i]) → Le Lk (L3.off M) → (∀ v ∈ lnS (rnds g k) nx g.rules[i], v ≤ ((4 ^ (k + 1) : Nat) : Int)) → parlref2_LengthsOf.c21 K so sn g.nons ((k : Nat) : Int) sg ((sg.n : Nat) : Int) ((i : Nat) : Int) g.terms g.nons g.start sg L3 := by
          intro L3 a1 a2 a3
          apply parlref2_LengthsOf.go21
          unfold parlref2_LengthsOf.t21
          rw [add_one (by omega)]
          exact ihi L3 a1 a2 a3
        have stay : ¬ (0 ≤ lenR (rnds g k) g.rules[i].right 0 ∧ (atI nx g.rules[i].left < 0 ∨ lenR (rnds g k) g.rules[i].right 0 < atI nx g.rules[i].left)) → parlref2_LengthsOf.c21 K so sn g.nons ((k : Nat) : Int) sg ((sg.n : Nat) : Int) ((i : Nat) : Int) g.terms g.nons g.start sg L2 := by
          intro h
          have e : lnS (rnds g k) nx g.rules[i] = nx := by unfold lnS; rw [if_neg h]
          exact next L2 (by rw [e]; exact hpa) hle2 (by rw [e]; exact hb2)
        have upd : (0 ≤ lenR (rnds g k) g.rules[i].right 0 ∧ (atI nx g.rules[i].left < 0 ∨ lenR (rnds g k) g.rules[i].right 0 < atI nx g.rules[i].left)) → parlref2_LengthsOf.c20 K so sn (lenR (rnds g k) g.rules[i].right 0) g.nons ((k : Nat) : Int) sg ((sg.n : Nat) : Int) ((i : Nat) : Int) g.terms g.nons g.start sg g.rules[i].left sr L2 := by
          intro h
          have e : lnS (rnds g k) nx g.rules[i] = nx.set g.rules[i].left.toNat (lenR (rnds g k) g.rules[i].right 0) := by unfold lnS; rw [if_pos h]
          apply parlref2_LengthsOf.go20
          unfold parlref2_LengthsOf.t20
          refine hpa.setI hl.1 hlt rfl fun L3 hpa3 hoff => ?_
          refine next L3 (by rw [e]; exact hpa3) (by rw [hoff]; exact hle2) fun v hm => ?_
          rw [e] at hm
          rcases List.mem_or_eq_of_mem_set hm with hm | rfl
          · exact hb2 v hm
          · exact hLb
        have scan : ∀ j, j ≤ g.rules[i].right.length → ∀ n : Int, -1 ≤ n → n ≤ j * 16777217 → lenR (rnds g k) g.rules[i].right 0 = lenQ (rnds g k) (g.rules[i].right.drop j) n →
            parlref2_LengthsOf.c10 K so sn n g.nons ((k : Nat) : Int) sg ((sg.n : Nat) : Int) ((i : Nat) : Int) sr ((sr.n : Nat) : Int) ((j : Nat) : Int) g.terms g.nons g.start sg g.rules[i].left sr L2 := by
          have hrn := hsr.n
          refine down ?_ ?_
          · intro n h1 h2 he
            rw [List.drop_length] at he
            have he : lenR (rnds g k) g.rules[i].right 0 = n := by
              rw [he]; unfold lenQ; split
              · omega
              · rfl
            apply parlref2_LengthsOf.go10
            refine bcD (fun h => absurd h (by omega)) fun _ => ?_
            rw [← he]
            refine bcD (fun h0 => ?_) fun h0 => stay fun h => h0 (by omega)
            refine (hpa.isInt).getI hl.1 hget fun a2 cs2 hK2 hc2 => ?_
            obtain rfl := hK2
            refine ⟨_, reads_one hc2, bcD (fun h => upd ⟨by omega, .inl (by rw [hat]; exact h)⟩) fun hn0 => ?_⟩
            refine (hpa.isInt).getI hl.1 hget fun a3 cs3 hK3 hc3 => ?_
            obtain rfl := hK3
            exact ⟨_, reads_one hc3, bcD (fun h => upd ⟨by omega, .inr (by rw [hat]; exact h)⟩) fun h => stay fun hh => by rw [hat] at hh; rcases hh.2 with h' | h' <;> omega⟩
          · intro j hj ihj n h1 h2 he
            rw [List.drop_eq_getElem_cons hj] at he
            have nx18 : ∀ n' : Int, -1 ≤ n' → n' ≤ ((j + 1 : Nat) : Int) * 16777217 → lenR (rnds g k) g.rules[i].right 0 = lenQ (rnds g k) (g.rules[i].right.drop (j + 1)) n' → parlref2_LengthsOf.c18 K so sn n' g.nons ((k : Nat) : Int) sg ((sg.n : Nat) : Int) ((i : Nat) : Int) sr ((sr.n : Nat) : Int) ((j : Nat) : Int) g.terms g.nons g.start sg g.rules[i].left sr L2 := by
              intro n' a1 a2 a3
              apply parlref2_LengthsOf.go18
              unfold parlref2_LengthsOf.t18
              rw [add_one (by omega)]
              exact ihj n' a1 a2 a3
            apply parlref2_LengthsOf.go10
            refine bcD (fun _ => ?_) fun h => absurd (by omega) h
            refine hsr.get (List.getElem?_eq_getElem hj) fun a2 cs2 hK2 hc2 => ?_
            obtain rfl := hK2
            refine ⟨_, _, hc2, bcD (fun hneg => ?_) fun hneg => bcI (fun ht => ?_) fun ht => ?_⟩
            · refine nx18 n h1 (by omega) ?_
              rw [he]; unfold lenQ; rw [if_pos hneg, if_pos hneg]
            · rw [w64_in (by omega) (by omega)]
              refine nx18 (n + 1) (by omega) (by omega) ?_
              rw [he]; unfold lenQ; rw [if_neg hneg, if_neg (by omega)]
              simp only [lenR]; rw [if_pos ht]
            · obtain ⟨s0, s1⟩ := hnt _ (List.getElem_mem hj) ht
              have hlt2 : g.rules[i].right[j].n.toNat < (rnds g k).length := by omega
              have hget2 := List.getElem?_eq_getElem hlt2
              have ha2 := atI_get hget2
              have hv2 := hbd _ (List.getElem_mem hlt2)
              refine ho2.getI s0 hget2 fun a4 cs4 hK4 hc4 => ?_
              obtain rfl := hK4
              refine ⟨_, reads_one hc4, bcD (fun h => ?_) fun h => ?_⟩
              · refine nx18 (-1) (by omega) (by omega) ?_
                rw [he]; unfold lenQ; rw [if_neg hneg, if_pos (by omega)]
                simp only [lenR]; rw [if_neg (by rw [ht]; simp), ha2, if_pos h]
              · refine ho2.getI s0 hget2 fun a5 cs5 hK5 hc5 => ?_
                obtain rfl := hK5
                refine ⟨_, reads_one hc5, ?_⟩
                rw [w64_in (by omega) (by omega)]
                refine nx18 _ (by omega) (by omega) ?_
                rw [he]; unfold lenQ; rw [if_neg hneg, if_neg (by omega)]
                simp only [lenR]; rw [if_neg (by rw [ht]; simp), ha2, if_neg h]
        exact scan 0 (Nat.zero_le _) 0 (by omega) (by omega) (by unfold lenQ; rw [if_neg (by omega)]; rfl)
    exact rules 0 (Nat.zero_le _) L1 hpa1 hle1 fun v hm => by have := hbd v hm; rw [hp5]; omega

theorem LengthsOf_spec {L : GHeap} {g : Gram} {sg : Sl} {lens : List Int} (hv : Valid g) (hl : LenSpec g lens) (hs : IsSl rRule L sg g.rules) :
    ACalls PP parlref2_LengthsOf.id [gramV g sg] L fun v L' => Le L L' ∧ ∃ so : Sl, v = .slice so.a so.n so.c ∧ IsSl rI L' so lens := by
  have hn := hv.nons
  apply parlref2_LengthsOf.go
  intro b15 h15
  simp only [inL]
  have l15 := Le.alloc h15 [.int .i64 (-1)] 1
  have s15 : IsSl rI (L.alloc b15 [.int .i64 (-1)] 1) ⟨some ⟨b15, 0, none⟩, 1, 1⟩ [-1] := IsSl.of_cells (cs := [.int .i64 (-1)]) (Cells.cons (c := [.int .i64 (-1)]) rfl .nil) rfl (Nat.le_refl _) alloc_reads
  have en : g.nons = ((g.nons.toNat : Nat) : Int) := by omega
  have hrep := Repeat_spec (n := g.nons.toNat) s15 ⟨by omega, by omega⟩
  rw [← en] at hrep
  refine hrep.mono ?_
  rintro v L2 ⟨b, rfl, hub, hpa, hoff⟩
  refine ⟨⟨some ⟨b, 0, none⟩, g.nons.toNat, g.nons.toNat⟩, rfl, ?_⟩
  have hle2 : Le L L2 := l15.trans (hpa.le (by rw [hoff]; exact .refl _))
  refine LengthsOf_go (Lb := L) hv hs (fun L' so h1 h2 => ⟨h1, so, rfl, by rw [rnds_lens hv hl] at h2; exact h2⟩) 0 (Nat.zero_le _) L2 _ hle2 hpa.isInt fun v hm => ?_
  rw [rnds] at hm
  rw [List.eq_of_mem_replicate hm]
  exact Int.le_trans (by omega) (Int.natCast_nonneg _)
end Go.Proofs.YtjmpheidcofhnaaDoor

