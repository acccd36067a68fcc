/- Contracts of the program's functions. -/
import Derived.Test.YtekiknmhlfiemaaDoorCAll10
import Derived.Test.YtekiknmhlfiemaaDoorCAll22
import Derived.Test.YtekiknmhlfiemaaDoorCAll23
import Derived.Test.YtekiknmhlfiemaaDoorCAll19
set_option linter.all false
namespace Go.Proofs.YtekiknmhlfiemaaDoor
open Go Go.Proofs.YtekiknmhlfiemaaDoor.GH

section
variable {L : GHeap} {g : Gram} {sg : Sl}

theorem lrof_bad (hs : IsSl rRule L sg g.rules) (h : chk g ≠ 0) (h5 : chk g ≠ 5) : ACalls PP leftrec_Of.id [gramV g sg] L fun v L' => v = .tuple #[strV ⟨0, 0, 0, []⟩ ⟨none, 0, 0⟩ ⟨none, 0, 0⟩, .int .i64 (chk g)] ∧ Le L L' := by
  apply leftrec_Of.go
  refine (Cyclic_bad hs h).mono ?_
  rintro v L1 ⟨rfl, hle⟩
  exact ⟨⟨none, 0, 0⟩, _, rfl, bcE (fun h' => absurd h' h) fun _ => bcE (fun h' => absurd h' h5) fun _ => ⟨rfl, hle⟩⟩

theorem chkRules_five {t n : Int} : ∀ {rs seen : List Rule}, chkRules t n seen rs ≠ 5
  | [], _ => by simp [chkRules]
  | r :: rs, seen => by
    simp only [chkRules]
    repeat' split
    all_goals first | decide | exact chkRules_five
theorem chk_small (g : Gram) : chk g ≠ 5 := by
  unfold Go.Proofs.YtekiknmhlfiemaaDoor.chk
  repeat' split
  all_goals first | decide | exact chkRules_five

/-- A symbol that is there derives no empty word with a terminal before. -/
theorem ds_term {g : Gram} {t : Int} {xs : List Sym} : ¬ Ds g (⟨true, t⟩ :: xs) [] := fun h => by cases h

theorem chain_ok : LrOk chainG := by
  have noE : ∀ {h : Gram} {w : Bool}, (∀ r ∈ h.rules, ∀ u v (b : Int), r.right = u ++ ⟨false, b⟩ :: v → (∃ t xs, u = ⟨true, t⟩ :: xs) ∨ (w = true ∧ ∃ t xs, v = ⟨true, t⟩ :: xs)) → ∀ a b, ¬ Edge h w a b := by
    rintro h w hh a b ⟨r, hr, _, u, v, e, h1, h2⟩
    rcases hh r hr u v b e with ⟨t, xs, rfl⟩ | ⟨rfl, t, xs, rfl⟩
    · exact ds_term h1
    · exact ds_term (h2 rfl)
  have noL : ∀ {h : Gram} {w : Bool}, (∀ a b, ¬ Edge h w a b) → ∀ a, ¬ OnLoop (Edge h w) a := fun hh a ⟨k, c, _, h2⟩ => hh _ _ h2
  have e : lrG chainG = ⟨2, 2, 0, [⟨1, [⟨true, 0⟩, ⟨false, 1⟩]⟩, ⟨0, [⟨true, 1⟩, ⟨false, 1⟩]⟩, ⟨1, []⟩]⟩ := by decide +kernel
  refine ⟨noL (noE ?_), by decide +kernel, chk_zero.1 (by decide +kernel), fun n _ => noL (noE ?_) n⟩
  · intro r hr u v b he
    simp only [chainG, List.mem_cons, List.not_mem_nil, or_false] at hr
    rcases hr with rfl | rfl
    · cases u with
      | nil => simp at he; exact .inr ⟨rfl, 0, [], he.2.symm⟩
      | cons x u =>
        simp at he
        cases u with
        | nil => simp at he
        | cons y u => simp at he
    · cases u with
      | nil => simp at he
      | cons x u => simp at he
  · rw [e]
    intro r hr u v b he
    simp only [List.mem_cons, List.not_mem_nil, or_false] at hr
    rcases hr with rfl | rfl | rfl
    · cases u with
      | nil => simp at he
      | cons x u => simp at he; exact .inl ⟨0, u, by rw [← he.1]⟩
    · cases u with
      | nil => simp at he
      | cons x u => simp at he; exact .inl ⟨1, u, by rw [← he.1]⟩
    · cases u with
      | nil => simp at he
      | cons x u => simp at he

end
end Go.Proofs.YtekiknmhlfiemaaDoor

namespace Go.Proofs.YtekiknmhlfiemaaDoor
open Go Go.Proofs.YtekiknmhlfiemaaDoor.GH

def StrPost (L : GHeap) (g : Gram) (v : Value) (L' : GHeap) : Prop := Le L L' ∧
  ((LrOk g ∧ ∃ so sf : Sl, v = .tuple #[gramV (lrG g) so, .slice sf.a sf.n sf.c, .int .i64 0] ∧ IsSl rRule L' so (lrG g).rules ∧ IsSl rI L' sf (lrF g)) ∨
   (¬ LrOk g ∧ ∃ e : Int, LrE g e ∧ e ≠ 0 ∧ v = .tuple #[.agg #[.int .i64 0, .int .i64 0, .int .i64 0, .slice none 0 0], .slice none 0 0, .int .i64 e]))

theorem LrE.one {g : Gram} {a b : Int} (ha : LrE g a) (a0 : a ≠ 0) (hb : LrE g b) (b0 : b ≠ 0) : a = b := by
  rcases ha with ⟨rfl, x, hx⟩ | ⟨rfl, h1, h2⟩ | ⟨rfl, h1, h2⟩ | ⟨rfl, h1, h2, h3, _⟩ <;> rcases hb with ⟨rfl, y, hy⟩ | ⟨rfl, k1, k2⟩ | ⟨rfl, k1, k2⟩ | ⟨rfl, k1, k2, k3, _⟩
  all_goals first | rfl | exact absurd hx (k1 _) | exact absurd hy (h1 _) | omega

section
variable {L : GHeap} {g : Gram} {sg : Sl}

theorem StraightOf_spec {lens : List Int} (hv : Valid g) (hln : LenSpec g lens) (hs : IsSl rRule L sg g.rules) : ACalls PP parlref2_StraightOf.id [gramV g sg] L (StrPost L g) := by
  have hnn := hv.nons
  have hmany := hv.many
  have hsn := hs.n
  have hE : ∀ x y, PasE g x y → 0 ≤ y ∧ y < (g.nons.toNat : Nat) := fun x y h => by have := (PasE.bound hv h).2; omega
  apply parlref2_StraightOf.go
  refine (CycleOf_spec hv hln hs).mono ?_
  rintro v L1 ⟨hle1, ⟨rfl, hnoc⟩ | ⟨so, rs, a, rfl, _, hne, _, hrh, _⟩⟩
  rotate_left
  · refine ⟨so, true, rfl, bcT rfl ⟨hle1, .inr ?_⟩⟩
    have hl : OnLoop (Edge g true) a := by
      cases rs with
      | nil => exact absurd rfl hne
      | cons i q => exact ⟨q.length, (walk_congr fun _ _ => edge_pas).2 hrh.walk⟩
    exact ⟨fun h => h.nocyc _ hl, 9, .inl ⟨rfl, a, hl⟩, by omega, rfl⟩
  have hno : ∀ a, ¬ OnLoop (Edge g true) a := by
    rintro a ⟨k, hk⟩
    have hk := (walk_congr fun _ _ => edge_pas).1 hk
    obtain ⟨c, h1, h2⟩ := hk.head
    have hc := hE _ _ h1
    obtain ⟨q, hq, h3⟩ := short_walk2 hE k hc.1 hc.2 h2
    exact hnoc (q + 1) a (by omega) (by omega) (Walk.cons h1 h3)
  refine ⟨⟨none, 0, 0⟩, false, rfl, bcF rfl ((TailsOf_spec hv (hs.mono hle1.toLeM)).mono ?_)⟩
  rintro v L2 ⟨hle2, st, rfl, hst⟩
  have h02 := hle1.trans hle2
  have hs2 := hs.mono h02.toLeM
  have hstn := hst.n
  rw [List.length_map] at hstn
  have hTl : (tlT g g.nons.toNat).length ≤ g.nons.toNat := by
    unfold tlT
    exact Nat.le_trans (List.length_filter_le _ _) (by rw [List.length_range]; exact Nat.le_refl _)
  have hval := (tl_val (g := g) _ (Nat.le_refl _)).1
  have etl : g.nons + ((st.n : Nat) : Int) = (tl g g.nons.toNat).2 := by rw [hval, hstn]
  refine ⟨st, rfl, ?_⟩
  rw [w64_in (by omega) (by omega), etl]
  refine bcD (fun h => ⟨h02, .inr ⟨fun h' => by have := h'.few; omega, 2, .inr (.inl ⟨rfl, hno, by omega⟩), by omega, rfl⟩⟩) fun hfew => ?_
  have hEl : (lrE g).length = (tlT g g.nons.toNat).length := by rw [lrE_eq (by omega)]; simp
  -- the tails' own rules
  have last : ∀ j, j ≤ (tlT g g.nons.toNat).length → ∀ (L4 : GHeap) (so sf : Sl), Le L2 L4 → Own L2 rRule L4 so (g.rules.map (lrR g) ++ (List.range j).map fun t : Nat => ⟨g.nons + (t : Int), []⟩) →
      Own L2 rI L4 sf (((List.range g.rules.length).map fun n : Nat => (n : Int)) ++ (List.range j).map fun _ => (-1 : Int)) → Sep so sf →
      parlref2_StraightOf.c22 (StrPost L g) sf ((st.n : Nat) : Int) ((j : Nat) : Int) g.terms g.nons g.start sg 0 0 0 ⟨none, 0, 0⟩ g.terms (tl g g.nons.toNat).2 g.start so L4 := by
    refine down ?_ ?_
    · intro L4 so sf hle4 ho hf hsep
      have e1 : (g.rules.map (lrR g) ++ (List.range (tlT g g.nons.toNat).length).map fun t : Nat => (⟨g.nons + (t : Int), []⟩ : Rule)) = (lrG g).rules := by
        show _ = g.rules.map (lrR g) ++ lrE g
        rw [lrE_eq (by omega)]
      have e2 : (((List.range g.rules.length).map fun n : Nat => (n : Int)) ++ (List.range (tlT g g.nons.toNat).length).map fun _ => (-1 : Int)) = lrF g := by
        unfold lrF
        rw [lrE_eq (by omega), List.map_map]; rfl
      rw [e1] at ho
      rw [e2] at hf
      have h04 := h02.trans hle4
      apply parlref2_StraightOf.go22
      refine bcD (fun h => absurd h (by omega)) fun _ => ?_
      refine (GramErr_spec (g := lrG g) ho.sl).mono ?_
      rintro v L5 ⟨rfl, hle5⟩
      refine ⟨_, rfl, bcNE (fun h => ?_) fun h => ?_⟩
      · exact ⟨h04.trans hle5, .inr ⟨fun h' => h (chk_zero.2 h'.chk), _, .inr (.inr (.inl ⟨rfl, hno, by omega⟩)), h, rfl⟩⟩
      · have hv2 := chk_zero.1 h
        obtain ⟨lens2, hln2⟩ := lens_ex hv2
        refine (LeftOf_spec hv2 hln2 (ho.sl.mono hle5.toLeM)).mono ?_
        rintro v L6 ⟨hle6, sl, p, rfl, hsl, hp⟩
        have hsn := hsl.n
        rw [List.length_map] at hsn
        have h06 := (h04.trans hle5).trans hle6
        refine ⟨sl, rfl, bcD (fun hpos => ?_) fun hz => ?_⟩
        · have hpos : 0 < ((List.range (lrG g).nons.toNat).filter p).length := by omega
          obtain ⟨n, hn⟩ := List.exists_mem_of_length_pos hpos
          obtain ⟨n1, n2⟩ := List.mem_filter.1 hn
          have n1 := List.mem_range.1 n1
          exact ⟨h06, .inr ⟨fun h' => h'.noleft n n1 ((hp n n1).1 n2), 8, .inr (.inr (.inr ⟨rfl, hno, by omega, h, n, n1, (hp n n1).1 n2⟩)), by omega, rfl⟩⟩
        · have m46 := (hle5.trans hle6).toLeM
          refine ⟨h06, .inl ⟨⟨hno, by omega, hv2, fun n hn hl => ?_⟩, so, sf, rfl, ho.sl.mono m46, hf.sl.mono m46⟩⟩
          have hm : n ∈ (List.range (lrG g).nons.toNat).filter p := List.mem_filter.2 ⟨List.mem_range.2 hn, (hp n hn).2 hl⟩
          have := List.length_pos_of_mem hm
          omega
    · intro j hj ihj L4 so sf hle4 ho hf hsep
      rw [List.range_succ, List.map_append, List.map_append, ← List.append_assoc, ← List.append_assoc] at ihj
      apply parlref2_StraightOf.go22
      refine bcD (fun _ => ?_) fun h => absurd (by omega) h
      rw [w64_in (by omega) (by omega)]
      refine app2 (L0 := L2) (left := g.nons + ((j : Nat) : Int)) (sq := ⟨none, 0, 0⟩) (ss := []) (x := -1) ho hf hsep hle4 (.nil _ _ _ _) (by simp; omega) (by simp; omega) fun so' sf' L5 h1 _ h3 h4 h5 => ?_
      rw [add_one (by omega)]
      exact ihj L5 so' sf' h1 h3 h4 h5
  -- the rules
  have rules : ∀ i, i ≤ g.rules.length → ∀ (L4 : GHeap) (so sf : Sl), Le L2 L4 → Own L2 rRule L4 so ((g.rules.take i).map (lrR g)) → Own L2 rI L4 sf ((List.range i).map fun n : Nat => (n : Int)) → Sep so sf →
      parlref2_StraightOf.c10 (StrPost L g) st sf sg ((sg.n : Nat) : Int) ((i : Nat) : Int) g.terms g.nons g.start sg 0 0 0 ⟨none, 0, 0⟩ g.terms (tl g g.nons.toNat).2 g.start so L4 := by
    refine down ?_ ?_
    · intro L4 so sf hle4 ho hf hsep
      rw [List.take_length] at ho
      apply parlref2_StraightOf.go10
      refine bcD (fun h => absurd h (by omega)) fun _ => ?_
      exact last 0 (Nat.zero_le _) L4 so sf hle4 (by simpa using ho) (by simpa using hf) hsep
    · intro i hi ihi L4 so sf hle4 ho hf hsep
      rw [List.take_succ_eq_append_getElem hi, List.map_append, List.range_succ, List.map_append] at ihi
      have hrm := List.getElem_mem hi
      have hir := List.getElem?_eq_getElem hi
      generalize g.rules[i] = r at *
      obtain ⟨⟨⟨l0, l1⟩, hrok⟩, hrl⟩ := hv.ok _ hrm
      have hltN : r.left.toNat < g.nons.toNat := by omega
      have hidx := tlT_idx (g := g) (a := r.left.toNat) hltN
      have htA := tlA_val (g := g) hltN
      rw [Int.toNat_of_nonneg l0] at hidx htA
      have hcnt : (tlT g r.left.toNat).length ≤ r.left.toNat := by
        unfold tlT
        exact Nat.le_trans (List.length_filter_le _ _) (by rw [List.length_range]; exact Nat.le_refl _)
      -- the new rule is there
      have c19 : ∀ (L5 : GHeap) (sq : Sl) (left : Int) (ss : List Sym), Le L4 L5 → IsSl rSym L5 sq ss → lrR g r = ⟨left, ss⟩ →
          parlref2_StraightOf.c19 (StrPost L g) st sf ((i : Nat) : Int) sq left sg ((sg.n : Nat) : Int) ((i : Nat) : Int) g.terms g.nons g.start sg 0 0 0 ⟨none, 0, 0⟩ g.terms (tl g g.nons.toNat).2 g.start so L5 := by
        intro L5 sq left ss hle5 hq he
        rw [List.map_singleton, he] at ihi
        apply parlref2_StraightOf.go19
        refine app2 (L0 := L2) (left := left) (sq := sq) (ss := ss) (x := ((i : Nat) : Int)) (ho.mono hle5) (hf.mono hle5) hsep (hle4.trans hle5) hq (by simp; omega) (by simp; omega) fun so' sf' L6 h1 _ h3 h4 h5 => ?_
        apply parlref2_StraightOf.go20
        unfold parlref2_StraightOf.t20
        rw [add_one (by omega)]
        exact ihi L6 so' sf' h1 h3 h4 h5
      apply parlref2_StraightOf.go10
      refine bcD (fun _ => ?_) fun h => absurd (by omega) h
      refine (hs2.mono hle4.toLeM).get hir fun a cs hK hc => ?_
      obtain ⟨sr, rfl, hsr⟩ := hK
      have hrn := hsr.n
      refine ⟨_, sr, hc, (Index_ro (v := r.left) (hst.mono hle4.toLeM) (by rw [List.length_map]; omega)).use ⟨_, rfl, fun b55 hu55 => inLI ?_⟩⟩
      rw [hidx]
      have le55 := Le.alloc hu55 [] 0
      have o55 : Own L4 rSym (L4.alloc b55 [] 0) ⟨some ⟨b55, 0, none⟩, 0, 0⟩ [] := Own.nil' _ _ _ _
      generalize L4.alloc b55 [] 0 = L5 at *
      obtain ⟨c58, hc58, hr58⟩ := (hsr.mono le55.toLeM).cells
      refine ⟨c58, ⟨hr58, hc58.one⟩, ?_⟩
      refine Own.append (R := rSym) (bytes := 16) (m := sr.n) (ys := r.right) o55 le55 hc58 hrn.symm (.inl (by simp; omega)) fun s58 L6 a1 _ a3 _ _ => ?_
      rw [List.nil_append] at a3
      refine bcD (fun hge => ?_) fun hge => ?_
      · have hhas : tlHas g r.left = true := by
          cases h : tlHas g r.left with
          | true => rfl
          | false => rw [h] at hge; simp at hge
        rw [if_pos hhas]
        have hA : tlA g r.left = g.nons + ((tlT g r.left.toNat).length : Nat) := by rw [htA]; unfold tlV; rw [Int.toNat_of_nonneg l0, if_pos hhas]
        rw [w64_in (by omega) (by omega), ← hA]
        have hge2 : tlA g r.left ≥ 0 := by omega
        refine Own.append (R := rSym) (bytes := 16) (m := 1) (ys := [⟨false, tlA g r.left⟩]) a3 a1 (Cells.cons (c := [.bool false, .int .i64 (tlA g r.left)]) rfl .nil) rfl (.inl (by omega)) fun s70 L7 d1 _ d3 _ _ => ?_
        have hn70 := d3.sl.n
        have hc70 := d3.sl.c
        cases hr : r.right with
        | nil =>
          rw [hr] at d3
          refine d3.sl.get (i := 0) (x := ⟨false, tlA g r.left⟩) rfl fun a2 cs2 hK2 hc2 => ?_
          obtain rfl := hK2
          refine ⟨_, _, hc2, bcI (fun h => ?_) fun _ => ?_⟩
          · simp at h; omega
          · refine c19 L7 s70 _ _ d1 d3.sl ?_
            unfold lrR selfish; rw [if_pos hge2, hr]; rfl
        | cons s ss =>
          have hself : selfish r = ((s.term == false) && (s.n == r.left)) := by unfold selfish; rw [hr]
          have d3' := d3
          rw [hr] at d3'
          refine d3'.sl.get (i := 0) (x := s) rfl fun a2 cs2 hK2 hc2 => ?_
          obtain rfl := hK2
          refine ⟨_, _, hc2, bcI (fun h => ?_) fun h => ?_⟩
          · have hd := d3.sl.drop (l := 1) (by rw [hr]; simp)
            refine ⟨⟨by omega, ?_⟩, c19 L7 _ _ _ d1 hd ?_⟩
            · rw [hn70, hr]; simp; omega
            · unfold lrR; rw [if_pos hge2, hself, if_pos h, hr]; rfl
          · refine c19 L7 s70 _ _ d1 d3.sl ?_
            unfold lrR; rw [if_pos hge2, hself, if_neg (by rw [h]; simp)]
      · have hhas : ¬ tlHas g r.left = true := fun h => by rw [if_pos h] at hge; omega
        refine c19 L6 s58 _ _ a1 a3.sl ?_
        have hA : tlA g r.left = -1 := by rw [htA]; unfold tlV; rw [Int.toNat_of_nonneg l0, if_neg hhas]
        unfold lrR; rw [if_neg (by omega)]
  exact rules 0 (Nat.zero_le _) L2 ⟨none, 0, 0⟩ ⟨none, 0, 0⟩ (.refl _) (.nil _ _ _) (.nil _ _ _) (fun h => absurd h (Nat.lt_irrefl 0))
end
end Go.Proofs.YtekiknmhlfiemaaDoor

