/- Contracts of the program's functions. -/
import Derived.Test.YtekiknmhlfiemaaDoorVAll4
import Derived.Test.YtekiknmhlfiemaaDoorCAll12
import Derived.Test.YtekiknmhlfiemaaDoorCAll11
import Derived.Test.YtekiknmhlfiemaaDoorCAll5
set_option linter.all false
namespace Go.Proofs.YtekiknmhlfiemaaDoor
open Go Go.Proofs.YtekiknmhlfiemaaDoor.GH

theorem foldl_take_succ {α β : Type} (f : β → α → β) (b : β) {xs : List α} {i : Nat} (h : i < xs.length) : (xs.take (i + 1)).foldl f b = f ((xs.take i).foldl f b) xs[i] := by
  rw [List.take_succ_eq_append_getElem h, List.foldl_append]; rfl

theorem lnS_length {out nx : List Int} {r : Rule} : (lnS out nx r).length = nx.length := by unfold lnS; split <;> simp
theorem fold_length {out : List Int} : ∀ (rs : List Rule) (nx : List Int), (rs.foldl (lnS out) nx).length = nx.length
  | [], _ => rfl
  | r :: rs, nx => by rw [List.foldl_cons, fold_length rs, lnS_length]
theorem rnds_length {g : Gram} : ∀ k, (rnds g k).length = g.nons.toNat
  | 0 => by simp [rnds]
  | k + 1 => by unfold rnds rnd; rw [fold_length]; exact rnds_length k

/-- The number of a scan, -1 where it failed. -/
def lenQ (out : List Int) (ss : List Sym) (n : Int) : Int := if n < 0 then -1 else lenR out ss n

theorem LengthsOf_go {Lb : GHeap} {g : Gram} {sg : Sl} (hv : Valid g) (hs : IsSl rRule Lb sg g.rules) {K : Value → GHeap → Prop} (hK : ∀ L' (so : Sl), Le Lb L' → IsSl rI L' so (rnds g g.nons.toNat) → K (.slice so.a so.n so.c) L') :
    ∀ k, k ≤ g.nons.toNat → ∀ (Lk : GHeap) (so : Sl), Le Lb Lk → IsSl rI Lk so (rnds g k) → (∀ v ∈ rnds g k, v ≤ ((4 ^ k : Nat) : Int)) → parlref2_LengthsOf.c3 K so g.nons ((k : Nat) : Int) g.terms g.nons g.start sg Lk := by
  have hnn := hv.nons
  have hmany := hv.many
  refine down ?_ ?_
  · intro Lk so hle ho _
    apply parlref2_LengthsOf.go3
    exact bcD (fun h => absurd h (by omega)) fun _ => hK Lk so hle ho
  · intro k hk ih Lk so hle ho hbd
    have hol := rnds_length (g := g) k
    have hp4 : 4 ^ k ≤ 16777216 := pow4_le (by omega)
    have hp1 : 1 ≤ 4 ^ k := Nat.pow_pos (by omega)
    have hp5 : (4 : Nat) ^ (k + 1) = 4 * 4 ^ k := by rw [Nat.pow_succ]; omega
    apply parlref2_LengthsOf.go3
    refine bcD (fun _ => ?_) fun h => absurd (by omega) h
    refine (CloneInt_spec ho (by omega)).mono ?_
    rintro v L1 ⟨sn, M, rfl, hle1, hpa1⟩
    refine ⟨sn, rfl, ?_⟩
    have hsLk := hs.mono hle.toLeM
    have rules : ∀ i, i ≤ g.rules.length → ∀ (L2 : GHeap), PA (Value.int .i64) Lk L2 M sn ((g.rules.take i).foldl (lnS (rnds g k)) (rnds g k)) → Le Lk (L2.off M) → (∀ v ∈ (g.rules.take i).foldl (lnS (rnds g k)) (rnds g k), v ≤ ((4 ^ (k + 1) : Nat) : Int)) →
        parlref2_LengthsOf.c6 K so sn g.nons ((k : Nat) : Int) sg ((sg.n : Nat) : Int) ((i : Nat) : Int) g.terms g.nons g.start sg L2 := by
      refine down ?_ ?_
      · intro L2 hpa hle2 hb2
        rw [List.take_length] at hpa hb2
        have hs2 := hsLk.n
        apply parlref2_LengthsOf.go6
        refine bcD (fun h => absurd h (by omega)) fun _ => ?_
        rw [add_one (by omega)]
        exact ih L2 sn (hle.trans (hpa.le hle2)) hpa.isInt hb2
      · intro i hi ihi L2 hpa hle2 hb2
        rw [foldl_take_succ _ _ hi] at ihi
        generalize hnx : (g.rules.take i).foldl (lnS (rnds g k)) (rnds g k) = nx at *
        have hnl : nx.length = g.nons.toNat := by rw [← hnx, fold_length]; exact hol
        have hL2 : LeM Lk L2 := hle2.toLeM.trans off_le
        have hs2 := hsLk.mono hL2
        have ho2 := ho.mono hL2
        obtain ⟨⟨hl, hrt⟩, hlen⟩ := hv.ok _ (List.getElem_mem hi)
        have hnt := nt_ok hv (List.getElem_mem hi)
        have hsn := hs2.n
        apply parlref2_LengthsOf.go6
        refine bcD (fun _ => ?_) fun h => absurd (by omega) h
        refine hs2.get (List.getElem?_eq_getElem hi) fun a cs hK' hc => ?_
        obtain ⟨sr, rfl, hsr⟩ := hK'
        refine ⟨_, _, hc, ?_⟩
        have hlt : g.rules[i].left.toNat < nx.length := by omega
        have hget := List.getElem?_eq_getElem hlt
        have hat := atI_get hget
        have hLb : lenR (rnds g k) g.rules[i].right 0 ≤ ((4 ^ (k + 1) : Nat) : Int) := by
          have := lenR_bound (B := ((4 ^ k : Nat) : Int)) (by omega) hbd (ss := g.rules[i].right) (n := 0) (fun s h1 h2 => by have := hnt s h1 h2; exact ⟨this.1, by omega⟩) (by omega)
          have h4 : (g.rules[i].right.length : Int) * ((4 ^ k : Nat) : Int) ≤ 4 * ((4 ^ k : Nat) : Int) := Int.mul_le_mul_of_nonneg_right (by omega) (by omega)
          rw [hp5]; omega
        have next : ∀ L3, PA (Value.int .i64) Lk L3 M sn (lnS (rnds g k) nx g.rules[i]) → Le Lk (L3.off M) → (∀ v ∈ lnS (rnds g k) nx g.rules[i], v ≤ ((4 ^ (k + 1) : Nat) : Int)) → parlref2_LengthsOf.c21 K so sn g.nons ((k : Nat) : Int) sg ((sg.n : Nat) : Int) ((i : Nat) : Int) g.terms g.nons g.start sg L3 := by
          intro L3 a1 a2 a3
          apply parlref2_LengthsOf.go21
          unfold parlref2_LengthsOf.t21
          rw [add_one (by omega)]
          exact ihi L3 a1 a2 a3
        have stay : ¬ (0 ≤ lenR (rnds g k) g.rules[i].right 0 ∧ (atI nx g.rules[i].left < 0 ∨ lenR (rnds g k) g.rules[i].right 0 < atI nx g.rules[i].left)) → parlref2_LengthsOf.c21 K so sn g.nons ((k : Nat) : Int) sg ((sg.n : Nat) : Int) ((i : Nat) : Int) g.terms g.nons g.start sg L2 := by
          intro h
          have e : lnS (rnds g k) nx g.rules[i] = nx := by unfold lnS; rw [if_neg h]
          exact next L2 (by rw [e]; exact hpa) hle2 (by rw [e]; exact hb2)
        have upd : (0 ≤ lenR (rnds g k) g.rules[i].right 0 ∧ (atI nx g.rules[i].left < 0 ∨ lenR (rnds g k) g.rules[i].right 0 < atI nx g.rules[i].left)) → parlref2_LengthsOf.c20 K so sn (lenR (rnds g k) g.rules[i].right 0) g.nons ((k : Nat) : Int) sg ((sg.n : Nat) : Int) ((i : Nat) : Int) g.terms g.nons g.start sg g.rules[i].left sr L2 := by
          intro h
          have e : lnS (rnds g k) nx g.rules[i] = nx.set g.rules[i].left.toNat (lenR (rnds g k) g.rules[i].right 0) := by unfold lnS; rw [if_pos h]
          apply parlref2_LengthsOf.go20
          unfold parlref2_LengthsOf.t20
          refine hpa.setI hl.1 hlt rfl fun L3 hpa3 hoff => ?_
          refine next L3 (by rw [e]; exact hpa3) (by rw [hoff]; exact hle2) fun v hm => ?_
          rw [e] at hm
          rcases List.mem_or_eq_of_mem_set hm with hm | rfl
          · exact hb2 v hm
          · exact hLb
        have scan : ∀ j, j ≤ g.rules[i].right.length → ∀ n : Int, -1 ≤ n → n ≤ j * 16777217 → lenR (rnds g k) g.rules[i].right 0 = lenQ (rnds g k) (g.rules[i].right.drop j) n →
            parlref2_LengthsOf.c10 K so sn n g.nons ((k : Nat) : Int) sg ((sg.n : Nat) : Int) ((i : Nat) : Int) sr ((sr.n : Nat) : Int) ((j : Nat) : Int) g.terms g.nons g.start sg g.rules[i].left sr L2 := by
          have hrn := hsr.n
          refine down ?_ ?_
          · intro n h1 h2 he
            rw [List.drop_length] at he
            have he : lenR (rnds g k) g.rules[i].right 0 = n := by
              rw [he]; unfold lenQ; split
              · omega
              · rfl
            apply parlref2_LengthsOf.go10
            refine bcD (fun h => absurd h (by omega)) fun _ => ?_
            rw [← he]
            refine bcD (fun h0 => ?_) fun h0 => stay fun h => h0 (by omega)
            refine (hpa.isInt).getI hl.1 hget fun a2 cs2 hK2 hc2 => ?_
            obtain rfl := hK2
            refine ⟨_, reads_one hc2, bcD (fun h => upd ⟨by omega, .inl (by rw [hat]; exact h)⟩) fun hn0 => ?_⟩
            refine (hpa.isInt).getI hl.1 hget fun a3 cs3 hK3 hc3 => ?_
            obtain rfl := hK3
            exact ⟨_, reads_one hc3, bcD (fun h => upd ⟨by omega, .inr (by rw [hat]; exact h)⟩) fun h => stay fun hh => by rw [hat] at hh; rcases hh.2 with h' | h' <;> omega⟩
          · intro j hj ihj n h1 h2 he
            rw [List.drop_eq_getElem_cons hj] at he
            have nx18 : ∀ n' : Int, -1 ≤ n' → n' ≤ ((j + 1 : Nat) : Int) * 16777217 → lenR (rnds g k) g.rules[i].right 0 = lenQ (rnds g k) (g.rules[i].right.drop (j + 1)) n' → parlref2_LengthsOf.c18 K so sn n' g.nons ((k : Nat) : Int) sg ((sg.n : Nat) : Int) ((i : Nat) : Int) sr ((sr.n : Nat) : Int) ((j : Nat) : Int) g.terms g.nons g.start sg g.rules[i].left sr L2 := by
              intro n' a1 a2 a3
              apply parlref2_LengthsOf.go18
              unfold parlref2_LengthsOf.t18
              rw [add_one (by omega)]
              exact ihj n' a1 a2 a3
            apply parlref2_LengthsOf.go10
            refine bcD (fun _ => ?_) fun h => absurd (by omega) h
            refine hsr.get (List.getElem?_eq_getElem hj) fun a2 cs2 hK2 hc2 => ?_
            obtain rfl := hK2
            refine ⟨_, _, hc2, bcD (fun hneg => ?_) fun hneg => bcI (fun ht => ?_) fun ht => ?_⟩
            · refine nx18 n h1 (by omega) ?_
              rw [he]; unfold lenQ; rw [if_pos hneg, if_pos hneg]
            · rw [w64_in (by omega) (by omega)]
              refine nx18 (n + 1) (by omega) (by omega) ?_
              rw [he]; unfold lenQ; rw [if_neg hneg, if_neg (by omega)]
              simp only [lenR]; rw [if_pos ht]
            · obtain ⟨s0, s1⟩ := hnt _ (List.getElem_mem hj) ht
              have hlt2 : g.rules[i].right[j].n.toNat < (rnds g k).length := by omega
              have hget2 := List.getElem?_eq_getElem hlt2
              have ha2 := atI_get hget2
              have hv2 := hbd _ (List.getElem_mem hlt2)
              refine ho2.getI s0 hget2 fun a4 cs4 hK4 hc4 => ?_
              obtain rfl := hK4
              refine ⟨_, reads_one hc4, bcD (fun h => ?_) fun h => ?_⟩
              · refine nx18 (-1) (by omega) (by omega) ?_
                rw [he]; unfold lenQ; rw [if_neg hneg, if_pos (by omega)]
                simp only [lenR]; rw [if_neg (by rw [ht]; simp), ha2, if_pos h]
              · refine ho2.getI s0 hget2 fun a5 cs5 hK5 hc5 => ?_
                obtain rfl := hK5
                refine ⟨_, reads_one hc5, ?_⟩
                rw [w64_in (by omega) (by omega)]
                refine nx18 _ (by omega) (by omega) ?_
                rw [he]; unfold lenQ; rw [if_neg hneg, if_neg (by omega)]
                simp only [lenR]; rw [if_neg (by rw [ht]; simp), ha2, if_neg h]
        exact scan 0 (Nat.zero_le _) 0 (by omega) (by omega) (by unfold lenQ; rw [if_neg (by omega)]; rfl)
    exact rules 0 (Nat.zero_le _) L1 hpa1 hle1 fun v hm => by have := hbd v hm; rw [hp5]; omega

theorem LengthsOf_spec {L : GHeap} {g : Gram} {sg : Sl} {lens : List Int} (hv : Valid g) (hl : LenSpec g lens) (hs : IsSl rRule L sg g.rules) :
    ACalls PP parlref2_LengthsOf.id [gramV g sg] L fun v L' => Le L L' ∧ ∃ so : Sl, v = .slice so.a so.n so.c ∧ IsSl rI L' so lens := by
  have hn := hv.nons
  apply parlref2_LengthsOf.go
  intro b15 h15
  simp only [inL]
  have l15 := Le.alloc h15 [.int .i64 (-1)] 1
  have s15 : IsSl rI (L.alloc b15 [.int .i64 (-1)] 1) ⟨some ⟨b15, 0, none⟩, 1, 1⟩ [-1] := IsSl.of_cells (cs := [.int .i64 (-1)]) (Cells.cons (c := [.int .i64 (-1)]) rfl .nil) rfl (Nat.le_refl _) alloc_reads
  have en : g.nons = ((g.nons.toNat : Nat) : Int) := by omega
  have hrep := Repeat_spec (n := g.nons.toNat) s15 ⟨by omega, by omega⟩
  rw [← en] at hrep
  refine hrep.mono ?_
  rintro v L2 ⟨b, rfl, hub, hpa, hoff⟩
  refine ⟨⟨some ⟨b, 0, none⟩, g.nons.toNat, g.nons.toNat⟩, rfl, ?_⟩
  have hle2 : Le L L2 := l15.trans (hpa.le (by rw [hoff]; exact .refl _))
  refine LengthsOf_go (Lb := L) hv hs (fun L' so h1 h2 => ⟨h1, so, rfl, by rw [rnds_lens hv hl] at h2; exact h2⟩) 0 (Nat.zero_le _) L2 _ hle2 hpa.isInt fun v hm => ?_
  rw [rnds] at hm
  rw [List.eq_of_mem_replicate hm]
  exact Int.le_trans (by omega) (Int.natCast_nonneg _)
end Go.Proofs.YtekiknmhlfiemaaDoor

namespace Go.Proofs.YtekiknmhlfiemaaDoor
open Go Go.Proofs.YtekiknmhlfiemaaDoor.GH

section
variable {L : GHeap} {g : Gram} {sg : Sl}

theorem Nulls_spec {lens : List Int} (hv : Valid g) (hl : LenSpec g lens) (hs : IsSl rRule L sg g.rules) :
    ACalls PP parlref2_Nulls.id [gramV g sg] L fun v L' => Le L L' ∧ ∃ so : Sl, v = .slice so.a so.n so.c ∧ IsSl rB L' so (lens.map fun k => k == 0) := by
  have hnn := hv.nons
  have hll := hl.len
  apply parlref2_Nulls.go
  refine ⟨⟨by omega, by omega, by omega⟩, fun b hu => ?_⟩
  rw [Nat.mul_one]
  simp only [inL]
  obtain ⟨hpa, hoff⟩ := PA.new (f := Value.bool) (L0 := L) (z := false) (v := .bool false) (n := g.nons.toNat) rfl hu (.refl L) (by omega)
  generalize L.alloc b (zeros g.nons.toNat [.bool false]) g.nons.toNat = L1 at *
  have hle1 : Le L L1 := hpa.le (by rw [hoff]; exact .refl L)
  refine ACalls.off hpa.live (LengthsOf_spec (sg := sg) hv hl (by rw [hoff]; exact hs)) ?_
  rintro v L2 hsame _ ⟨hle2, sl, rfl, hb2⟩
  rw [hoff] at hle2
  refine ⟨sl, rfl, ?_⟩
  have hpa2 := hpa.same hsame
  have hoff2 : Le L (L2.off (· = b)) := hle2
  have hsn := hb2.n
  have key : ∀ i, i ≤ lens.length → ∀ L3, PA Value.bool L L3 (· = b) ⟨some ⟨b, 0, none⟩, g.nons.toNat, g.nons.toNat⟩ ((lens.take i).map (fun k => k == 0) ++ List.replicate (lens.length - i) false) → L3.off (· = b) = L2.off (· = b) →
      parlref2_Nulls.c3 (fun v L' => Le L L' ∧ ∃ so : Sl, v = .slice so.a so.n so.c ∧ IsSl rB L' so (lens.map fun k => k == 0)) ⟨some ⟨b, 0, none⟩, g.nons.toNat, g.nons.toNat⟩ sl ((sl.n : Nat) : Int) ((i : Nat) : Int) L3 := by
    refine down ?_ ?_
    · intro L3 hp ho
      rw [List.take_length, Nat.sub_self, List.replicate_zero, List.append_nil] at hp
      apply parlref2_Nulls.go3
      exact bcD (fun h => absurd h (by omega)) fun _ => ⟨hp.le (by rw [ho]; exact hoff2), _, rfl, hp.isBool⟩
    · intro i hi ih L3 hp ho
      apply parlref2_Nulls.go3
      refine bcD (fun _ => ?_) fun h => absurd (by omega) h
      refine hb2.get (List.getElem?_eq_getElem hi) fun a cs hK hc => ?_
      obtain rfl := hK
      refine ⟨_, off_le.mem _ _ (by rw [ho]; exact reads_one hc), ?_⟩
      refine hp.set (i := i) (by simp; omega) (x := (lens[i] == 0)) rfl fun L4 hp4 ho4 => ?_
      rw [add_one (by omega)]
      refine ih L4 ?_ (ho4.trans ho)
      have e : ((lens.take i).map (fun k => k == 0) ++ List.replicate (lens.length - i) false).set i (lens[i] == 0) = (lens.take (i + 1)).map (fun k => k == 0) ++ List.replicate (lens.length - (i + 1)) false := by
        have e1 : i = ((lens.take i).map (fun k => k == 0)).length := by simp; omega
        rw [show lens.length - i = (lens.length - (i + 1)) + 1 by omega]
        conv => lhs; arg 2; rw [e1]
        rw [set_append_right, List.take_succ_eq_append_getElem hi, List.map_append]
        simp [List.replicate_succ]
      rw [← e]; exact hp4
  exact key 0 (Nat.zero_le _) L2 (by simpa [hll] using hpa2) rfl

theorem empty1_ro {t1 : Addr} {sn : Sl} {null : List Bool} (hm : L.mem t1 = some (.slice sn.a sn.n sn.c)) (hn : IsSl rB L sn null) {s : Sym} (hs : s.term = false → 0 ≤ s.n ∧ s.n < null.length) :
    RO PP parlref2_empty_1.id [.agg #[.bool s.term, .int .i64 s.n], .pointer (some t1)] L (.bool (!emp null s)) := by
  apply parlref2_empty_1.go
  refine bcI (fun ht => ⟨by unfold emp; rw [ht]; rfl, rfl⟩) fun ht => ?_
  obtain ⟨h0, h1⟩ := hs ht
  have hlt : s.n.toNat < null.length := by omega
  refine ⟨sn, hm, hn.getI h0 (List.getElem?_eq_getElem hlt) fun a cs hK hc => ?_⟩
  obtain rfl := hK
  exact ⟨_, reads_one hc, by unfold emp; rw [ht, getB_get hlt]; rfl, rfl⟩

theorem empty_spec {sn sl : Sl} {null : List Bool} {l : List Sym} (hn : IsSl rB L sn null) (hl : IsSl rSym L sl l) (hok : ∀ s ∈ l, s.term = false → 0 ≤ s.n ∧ s.n < null.length) (hb : l.length ≤ 1048576) :
    ACalls PP parlref2_empty.id [.slice sn.a sn.n sn.c, .slice sl.a sl.n sl.c] L fun v L' => v = .bool (l.all (emp null)) ∧ Le L L' := by
  apply parlref2_empty.go
  intro b2 hu
  simp only [inL]
  have le2 := Le.alloc hu [.slice sn.a sn.n sn.c] 1
  have k2 : (L.alloc b2 [.slice sn.a sn.n sn.c] 1).mem ⟨b2, 0, none⟩ = some (.slice sn.a sn.n sn.c) := by rw [alloc_mem]; rfl
  generalize L.alloc b2 [.slice sn.a sn.n sn.c] 1 = L1 at *
  refine (ContainsFuncSym_ro (cap := [.pointer (some ⟨b2, 0, none⟩)]) (p := fun s => !emp null s) (hl.mono le2.toLeM) hb fun x hx => empty1_ro k2 (hn.mono le2.toLeM) (hok x hx)).use ⟨_, rfl, ?_, le2⟩
  congr 1
  induction l with
  | nil => rfl
  | cons x xs _ =>
    rw [List.not_any_eq_all_not]
    simp

def nodeI (g : Gram) (s : Sym) : Int := if s.term = true then s.n else g.terms + s.n
theorem node_ro {s : Sym} (h1 : 0 ≤ g.terms ∧ g.terms ≤ 1024) (h2 : 0 ≤ s.n ∧ s.n ≤ 1024) : RO PP parlref2_node.id [gramV g sg, .agg #[.bool s.term, .int .i64 s.n]] L (.int .i64 (nodeI g s)) := by
  apply parlref2_node.go
  refine bcI (fun ht => ⟨by unfold nodeI; rw [if_pos ht], rfl⟩) fun ht => ⟨?_, rfl⟩
  rw [w64_in (by omega) (by omega)]
  unfold nodeI; rw [if_neg (by rw [ht]; simp)]

/-- What stands at the beginning (at the end) of lists that a symbol becomes, in one step. -/
def EdN (g : Gram) (back : Bool) (x y : Int) : Prop := ∃ r ∈ g.rules, ∃ (i : Nat) (s : Sym), r.right[i]? = some s ∧ Ds g (if back = true then r.right.drop (i + 1) else r.right.take i) [] ∧ x = g.terms + r.left ∧ y = nodeI g s

theorem nodeI_bound (hv : Valid g) {s : Sym} (hs : SymOk g.terms g.nons s) : 0 ≤ nodeI g s ∧ nodeI g s < g.terms + g.nons := by
  have ht := hv.terms
  have hn := hv.nons
  obtain ⟨a, b, c⟩ := hs
  unfold nodeI
  cases h : s.term with
  | true => have := b h; simp; omega
  | false => have := c h; simp; omega

theorem EdN.bound (hv : Valid g) {back : Bool} {x y : Int} (h : EdN g back x y) : 0 ≤ x ∧ x < g.terms + g.nons ∧ 0 ≤ y ∧ y < g.terms + g.nons := by
  obtain ⟨r, hr, i, s, hs, _, rfl, rfl⟩ := h
  have hl := (hv.ok r hr).1.left
  have ht := hv.terms
  have := nodeI_bound hv ((hv.ok r hr).1.right s (List.mem_of_getElem? hs))
  omega

def EdgPost (L : GHeap) (g : Gram) (back : Bool) (v : Value) (L' : GHeap) : Prop :=
  Le L L' ∧ ∃ (so : Sl) (rows : List (List Bool)), v = .slice so.a so.n so.c ∧ IsSl (rS rB) L' so rows ∧ Tab (g.terms + g.nons).toNat rows ∧ ∀ a b : Nat, a < (g.terms + g.nons).toNat → b < (g.terms + g.nons).toNat → (cellB rows a b = true ↔ ∃ k, Walk (EdN g back) k (a : Int) b)

theorem Edges_c9 {Lb : GHeap} {bl : List Nat} {so sn : Sl} {null : List Bool} {back : Bool} (hv : Valid g) (hle : Le L Lb) (hs : IsSl rRule Lb sg g.rules) (hn : IsSl rB Lb sn null) (hnu : NullSpec g null) :
    ∀ i, i ≤ g.rules.length → ∀ (L2 : GHeap) (rows : List (List Bool)), Mat Value.bool Lb L2 bl so (g.terms + g.nons).toNat rows → Tab (g.terms + g.nons).toNat rows →
      (∀ a b : Nat, a < (g.terms + g.nons).toNat → b < (g.terms + g.nons).toNat → cellB rows a b = true → EdN g back a b) →
      (∀ k r, k < i → g.rules[k]? = some r → ∀ q s, r.right[q]? = some s → Ds g (if back = true then r.right.drop (q + 1) else r.right.take q) [] → cellB rows (g.terms + r.left) (nodeI g s) = true) →
      parlref2_Edges.c9 (EdgPost L g back) back sn so sg ((sg.n : Nat) : Int) ((i : Nat) : Int) g.terms g.nons g.start sg L2 := by
  have ht := hv.terms
  have hnn := hv.nons
  have hmany := hv.many
  have hsn := hs.n
  have hnl := hnu.1
  have hup : ∀ {L2 : GHeap} {rows : List (List Bool)}, Mat Value.bool Lb L2 bl so (g.terms + g.nons).toNat rows → LeM Lb L2 := fun hM => hM.le.toLeM.trans off_le
  refine down ?_ ?_
  · intro L2 rows hM hT hsd hdn
    apply parlref2_Edges.go9
    refine bcD (fun h => absurd h (by omega)) fun _ => ?_
    refine (closure_spec (E := EdN g back) (by omega) (fun a b => ⟨fun h => ?_, fun h => ?_⟩) hM hT).mono ?_
    · have hb := h.bound hv
      refine ⟨hb.1, by omega, hb.2.2.1, by omega, ?_⟩
      obtain ⟨r, hr, i, s, h1, h2, rfl, rfl⟩ := h
      obtain ⟨k, hk⟩ := List.getElem?_of_mem hr
      exact hdn k r (List.getElem?_eq_some_iff.1 hk).1 hk i s h1 h2
    · obtain ⟨a0, a1, b0, b1, hc⟩ := h
      have := hsd a.toNat b.toNat (by omega) (by omega) (by rw [Int.toNat_of_nonneg a0, Int.toNat_of_nonneg b0]; exact hc)
      rwa [Int.toNat_of_nonneg a0, Int.toNat_of_nonneg b0] at this
    · rintro v L3 ⟨rfl, rows', hM', hT', hall⟩
      exact ⟨so, rfl, hle.trans (le_of_off hM'.unu hM'.le), so, rows', rfl, hM'.isSl rfl fun _ _ => rfl, hT', hall⟩
  · intro i hi ih L2 rows hM hT hsd hdn
    obtain ⟨⟨hl, hrt⟩, hlen⟩ := hv.ok _ (List.getElem_mem hi)
    apply parlref2_Edges.go9
    refine bcD (fun _ => ?_) fun h => absurd (by omega) h
    refine hs.get (List.getElem?_eq_getElem hi) fun a cs hK hc => ?_
    obtain ⟨sr, rfl, hsr⟩ := hK
    refine ⟨_, _, (hup hM).reads hc, ?_⟩
    have hrn := hsr.n
    generalize hrr : g.rules[i] = r at *
    have hri : g.rules[i]? = some r := by rw [List.getElem?_eq_getElem hi, hrr]
    have hrg : r ∈ g.rules := List.mem_of_getElem? hri
    have syms : ∀ j, j ≤ r.right.length → ∀ (L3 : GHeap) (rows : List (List Bool)), Mat Value.bool Lb L3 bl so (g.terms + g.nons).toNat rows → Tab (g.terms + g.nons).toNat rows →
        (∀ a b : Nat, a < (g.terms + g.nons).toNat → b < (g.terms + g.nons).toNat → cellB rows a b = true → EdN g back a b) →
        (∀ k r, k < i → g.rules[k]? = some r → ∀ q s, r.right[q]? = some s → Ds g (if back = true then r.right.drop (q + 1) else r.right.take q) [] → cellB rows (g.terms + r.left) (nodeI g s) = true) →
        (∀ q s, q < j → r.right[q]? = some s → Ds g (if back = true then r.right.drop (q + 1) else r.right.take q) [] → cellB rows (g.terms + r.left) (nodeI g s) = true) →
        parlref2_Edges.c12 (EdgPost L g back) back sn so sg ((sg.n : Nat) : Int) ((i : Nat) : Int) sr ((sr.n : Nat) : Int) ((j : Nat) : Int) g.terms g.nons g.start sg r.left sr L3 := by
      refine down ?_ ?_
      · intro L3 rows hM hT hsd hdn hcur
        apply parlref2_Edges.go12
        refine bcD (fun h => absurd h (by omega)) fun _ => ?_
        rw [add_one (by omega)]
        refine ih L3 rows hM hT hsd fun k r' hk hr' q s hq hd => ?_
        rcases Nat.lt_or_eq_of_le (Nat.le_of_lt_succ hk) with h | rfl
        · exact hdn k r' h hr' q s hq hd
        · rw [hri] at hr'; cases hr'
          exact hcur q s (List.getElem?_eq_some_iff.1 hq).1 hq hd
      · intro j hj ihj L3 rows hM hT hsd hdn hcur
        have hsok := hrt _ (List.getElem_mem hj)
        have hnb := nodeI_bound hv hsok
        have nx : ∀ (L4 : GHeap) (rows : List (List Bool)), Mat Value.bool Lb L4 bl so (g.terms + g.nons).toNat rows → Tab (g.terms + g.nons).toNat rows →
            (∀ a b : Nat, a < (g.terms + g.nons).toNat → b < (g.terms + g.nons).toNat → cellB rows a b = true → EdN g back a b) →
            (∀ k r, k < i → g.rules[k]? = some r → ∀ q s, r.right[q]? = some s → Ds g (if back = true then r.right.drop (q + 1) else r.right.take q) [] → cellB rows (g.terms + r.left) (nodeI g s) = true) →
            (∀ q s, q < j + 1 → r.right[q]? = some s → Ds g (if back = true then r.right.drop (q + 1) else r.right.take q) [] → cellB rows (g.terms + r.left) (nodeI g s) = true) →
            parlref2_Edges.c19 (EdgPost L g back) back sn so sg ((sg.n : Nat) : Int) ((i : Nat) : Int) sr ((sr.n : Nat) : Int) ((j : Nat) : Int) g.terms g.nons g.start sg r.left sr L4 := by
          intro L4 rows a1 a2 a3 a4 a5
          apply parlref2_Edges.go19
          unfold parlref2_Edges.t19
          rw [add_one (by omega)]
          exact ihj L4 rows a1 a2 a3 a4 a5
        have c17 : ∀ (se : Sl) (rest : List Sym), rest = (if back = true then r.right.drop (j + 1) else r.right.take j) → IsSl rSym L3 se rest →
            parlref2_Edges.c17 (EdgPost L g back) back sn so se sg ((sg.n : Nat) : Int) ((i : Nat) : Int) sr ((sr.n : Nat) : Int) ((j : Nat) : Int) g.terms g.nons g.start sg r.left sr r.right[j].term r.right[j].n L3 := by
          intro se rest hre hse
          have hrok : ∀ s ∈ rest, SymOk g.terms g.nons s := fun s hs' => hrt s (by
            rw [hre] at hs'
            split at hs'
            · exact List.mem_of_mem_drop hs'
            · exact List.mem_of_mem_take hs')
          have hrl : rest.length ≤ 4 := by
            rw [hre]; split
            · rw [List.length_drop]; omega
            · rw [List.length_take]; omega
          apply parlref2_Edges.go17
          refine (empty_spec (hn.mono (hup hM)) hse (fun s hs' ht => by have h := hrok s hs'; have := h.2.2 ht; exact ⟨h.1, by omega⟩) (by omega)).mono ?_
          rintro v L4 ⟨rfl, hle4⟩
          have hM4 := hM.up hle4
          refine ⟨_, rfl, bcI (fun he => ?_) fun he => ?_⟩
          · have hds : Ds g rest [] := (all_emp hnu hrok).1 he
            rw [hre] at hds
            have hed : EdN g back (g.terms + r.left) (nodeI g r.right[j]) := ⟨r, hrg, j, _, List.getElem?_eq_getElem hj, hds, rfl, rfl⟩
            obtain ⟨row, v, r1, r2, r3, r4⟩ := hT.get (i := (g.terms + r.left).toNat) (j := (nodeI g r.right[j]).toNat) (by omega) (by omega)
            have hcell := cellB_set2 r1 (j := (nodeI g r.right[j]).toNat) (by omega) true
            have put : ∀ c, bl[(g.terms + r.left).toNat]? = some c → ptrK (some (⟨c, 0, none⟩ : Addr)) fun a => (0 ≤ nodeI g r.right[j] ∧ nodeI g r.right[j] < (((g.terms + g.nons).toNat : Nat) : Int)) ∧ L4.may (a.add (Int.toNat (nodeI g r.right[j]) * 1)) 0 1 ∧ inL (L4.sets (a.add (Int.toNat (nodeI g r.right[j]) * 1)) 0 [.bool true]) fun L5 => parlref2_Edges.c19 (EdgPost L g back) back sn so sg ((sg.n : Nat) : Int) ((i : Nat) : Int) sr ((sr.n : Nat) : Int) ((j : Nat) : Int) g.terms g.nons g.start sg r.left sr L5 := by
              intro c hbc
              refine PA.setI (hM4.pa hbc r1 (hM4.unu c (List.mem_of_getElem? hbc))) (r := nodeI g r.right[j]) hnb.1 (by omega) (x := true) rfl fun L5 hp5 ho5 => ?_
              have up : ∀ a b : Int, 0 ≤ a → 0 ≤ b → cellB rows a b = true → cellB (rows.set (g.terms + r.left).toNat (row.set (nodeI g r.right[j]).toNat true)) a b = true := fun a b ha hb h => by
                have := hcell a.toNat b.toNat
                rw [Int.toNat_of_nonneg ha, Int.toNat_of_nonneg hb] at this
                rw [this]; split <;> first | rfl | exact h
              refine nx L5 _ (hM4.setRow hbc r1 hp5 ho5) (hT.set r1 true) (fun a b ha hb h => ?_) (fun k r' hk hr' q s hq hd => ?_) fun q s hq hqs hd => ?_
              · rw [hcell] at h
                split at h
                · rename_i h'
                  obtain ⟨rfl, rfl⟩ := h'
                  rw [Int.toNat_of_nonneg (by omega), Int.toNat_of_nonneg hnb.1]; exact hed
                · exact hsd a b ha hb h
              · have hr'' := hv.ok r' (List.mem_of_getElem? hr')
                have := hr''.1.left
                have := nodeI_bound hv (hr''.1.right s (List.mem_of_getElem? hq))
                exact up _ _ (by omega) this.1 (hdn k r' hk hr' q s hq hd)
              · by_cases e : q = j
                · subst e
                  rw [List.getElem?_eq_getElem hj] at hqs; cases hqs
                  have := hcell (g.terms + r.left).toNat (nodeI g r.right[q]).toNat
                  rw [Int.toNat_of_nonneg (by omega), Int.toNat_of_nonneg hnb.1, if_pos ⟨rfl, rfl⟩] at this
                  exact this
                · have := nodeI_bound hv (hrt s (List.mem_of_getElem? hqs))
                  exact up _ _ (by omega) this.1 (hcur q s (by omega) hqs hd)
            have hnode : RO PP parlref2_node.id [gramV g sg, .agg #[.bool r.right[j].term, .int .i64 r.right[j].n]] L4 (.int .i64 (nodeI g r.right[j])) := by
              refine node_ro ⟨by omega, by omega⟩ ⟨hsok.1, ?_⟩
              cases ht' : r.right[j].term with
              | true => have := hsok.2.1 ht'; omega
              | false => have := hsok.2.2 ht'; omega
            apply parlref2_Edges.go18
            unfold parlref2_Edges.t18
            rw [w64_in (by omega) (by omega)]
            have hget := hM4.get r1 (k := fun x67 => (∃ x68 : Sl, L4.mem (x67.add (Int.toNat (g.terms + r.left) * 1)) = some (.slice x68.a x68.n x68.c) ∧ ACalls PP parlref2_node.id [gramV g sg, .agg #[.bool r.right[j].term, .int .i64 r.right[j].n]] L4 fun v Lx => ∃ x71, v = .int .i64 x71 ∧
              ptrK x68.a fun x72 => (0 ≤ x71 ∧ x71 < ((x68.n : Nat) : Int)) ∧ Lx.may (x72.add (Int.toNat x71 * 1)) 0 1 ∧ inL (Lx.sets (x72.add (Int.toNat x71 * 1)) 0 [.bool true]) fun Ly => parlref2_Edges.c19 (EdgPost L g back) back sn so sg ((sg.n : Nat) : Int) ((i : Nat) : Int) sr ((sr.n : Nat) : Int) ((j : Nat) : Int) g.terms g.nons g.start sg r.left sr Ly) ∧
              (ACalls PP parlref2_node.id [gramV g sg, .agg #[.bool r.right[j].term, .int .i64 r.right[j].n]] L4 fun v Lx => ∃ x71, v = .int .i64 x71 ∧ ∃ x68 : Sl, Lx.mem (x67.add (Int.toNat (g.terms + r.left) * 1)) = some (.slice x68.a x68.n x68.c) ∧
              ptrK x68.a fun x72 => (0 ≤ x71 ∧ x71 < ((x68.n : Nat) : Int)) ∧ Lx.may (x72.add (Int.toNat x71 * 1)) 0 1 ∧ inL (Lx.sets (x72.add (Int.toNat x71 * 1)) 0 [.bool true]) fun Ly => parlref2_Edges.c19 (EdgPost L g back) back sn so sg ((sg.n : Nat) : Int) ((i : Nat) : Int) sr ((sr.n : Nat) : Int) ((j : Nat) : Int) g.terms g.nons g.start sg r.left sr Ly)) fun a c hbc hc => ?_
            · rw [Int.toNat_of_nonneg (by omega)] at hget
              exact hget
            · have hm : L4.mem (a.add (Int.toNat (g.terms + r.left) * 1)) = some (.slice (some ⟨c, 0, none⟩) (g.terms + g.nons).toNat (g.terms + g.nons).toNat) := hc
              exact ⟨⟨⟨some ⟨c, 0, none⟩, (g.terms + g.nons).toNat, (g.terms + g.nons).toNat⟩, hm, hnode.use ⟨_, rfl, put c hbc⟩⟩, hnode.use ⟨_, rfl, ⟨some ⟨c, 0, none⟩, (g.terms + g.nons).toNat, (g.terms + g.nons).toNat⟩, hm, put c hbc⟩⟩
          · refine nx L4 rows hM4 hT hsd hdn fun q s hq hqs hd => ?_
            by_cases e : q = j
            · subst e
              rw [← hre] at hd
              rw [(all_emp hnu hrok).2 hd] at he; cases he
            · exact hcur q s (by omega) hqs hd
        apply parlref2_Edges.go12
        refine bcD (fun _ => ?_) fun h => absurd (by omega) h
        have hsr3 := hsr.mono (hup hM)
        refine hsr3.get (List.getElem?_eq_getElem hj) fun a2 cs2 hK2 hc2 => ?_
        obtain rfl := hK2
        have hrc := hsr3.c
        refine ⟨_, _, hc2, ⟨by omega, by omega⟩, bcI (fun hb => ?_) fun hb => ?_⟩
        · rw [add_one (by omega), Int.toNat_natCast]
          exact ⟨⟨by omega, by omega⟩, c17 _ (r.right.drop (j + 1)) (by rw [if_pos hb]) (hsr3.drop (by omega))⟩
        · rw [Int.toNat_natCast]
          exact c17 _ (r.right.take j) (by rw [if_neg (by rw [hb]; simp)]) (hsr3.take (by omega))
    exact syms 0 (Nat.zero_le _) L2 rows hM hT hsd hdn (fun q s h => by omega)

theorem Edges_spec {lens : List Int} {back : Bool} (hv : Valid g) (hl : LenSpec g lens) (hs : IsSl rRule L sg g.rules) : ACalls PP parlref2_Edges.id [gramV g sg, .bool back] L (EdgPost L g back) := by
  have ht := hv.terms
  have hnn := hv.nons
  apply parlref2_Edges.go
  refine (Nulls_spec hv hl hs).mono ?_
  rintro v L1 ⟨hle1, sn, rfl, hn⟩
  have hs1 := hs.mono hle1.toLeM
  refine ⟨sn, rfl, ?_⟩
  rw [w64_in (by omega) (by omega)]
  refine ⟨⟨by omega, by omega, by omega⟩, fun ob hu => inLI ?_⟩
  rw [Nat.mul_one]
  have key : ∀ k, k ≤ (g.terms + g.nons).toNat → ∀ (bl : List Nat) (L2 : GHeap), bl.length = k → MakeM Value.bool false L1 L2 ob (g.terms + g.nons).toNat (g.terms + g.nons).toNat bl →
      parlref2_Edges.c4 (EdgPost L g back) back sn ⟨some ⟨ob, 0, none⟩, (g.terms + g.nons).toNat, (g.terms + g.nons).toNat⟩ (((g.terms + g.nons).toNat : Nat) : Int) ((k : Nat) : Int) g.terms g.nons g.start sg L2 := by
    refine down ?_ ?_
    · intro bl L2 hbl p
      apply parlref2_Edges.go4
      refine bcD (fun h => absurd h (by omega)) fun _ => ?_
      refine Edges_c9 hv hle1 hs1 hn hl.null 0 (Nat.zero_le _) L2 _ (p.done (by omega) hbl (by omega)) ⟨by simp, fun r hr => by rw [List.eq_of_mem_replicate hr]; simp⟩ (fun a b ha hb hc => ?_) fun k r h => by omega
      rw [cellB_at (row := List.replicate (g.terms + g.nons).toNat false) (v := false) (by rw [List.getElem?_replicate, if_pos ha]) (by rw [List.getElem?_replicate, if_pos hb])] at hc
      cases hc
    · intro k hk ih bl L2 hbl p
      apply parlref2_Edges.go4
      refine bcD (fun _ => ⟨⟨by omega, by simp only; omega, by simp only; omega⟩, fun b hub => inLI ?_⟩) fun h => absurd (by omega) h
      have := p.next (b := b) (v := .bool false) (by omega) (by omega) rfl hub (k := fun L3 => parlref2_Edges.c4 (EdgPost L g back) back sn ⟨some ⟨ob, 0, none⟩, (g.terms + g.nons).toNat, (g.terms + g.nons).toNat⟩ (((g.terms + g.nons).toNat : Nat) : Int) (w64 (((k : Nat) : Int) + 1)) g.terms g.nons g.start sg L3) fun L3 p3 => by
        rw [add_one (by omega)]
        exact ih (bl ++ [b]) L3 (by simp [hbl]) p3
      rw [hbl] at this
      exact this
  exact key 0 (Nat.zero_le _) [] _ rfl (MakeM.start hu (by omega))
end
end Go.Proofs.YtekiknmhlfiemaaDoor

