/- The reference's layout tokens, walked. -/
import Derived.Test.YtpgpognmdejdaaaDoorVLayRef
import Derived.Test.YtpgpognmdejdaaaDoorCLayRefM
import Derived.Test.YtpgpognmdejdaaaDoorCContains
set_option linter.all false
namespace Go.Proofs.YtpgpognmdejdaaaDoor
open Go Go.Proofs.YtpgpognmdejdaaaDoor.GH

def rRow : Rp (Int × List Tok) := ⟨2, by decide, fun L cs x => ∃ s : Sl, cs = [.int .i64 x.1, .slice s.a s.n s.c] ∧ IsSl rTok L s x.2, fun ⟨_, h, _⟩ => by rw [h]; rfl, fun ⟨_, h, _⟩ => by rw [h]; rfl,
  fun hl ⟨s, h, hs⟩ => ⟨s, h, hs.mono hl⟩⟩

theorem Own.lit {L0 L : GHeap} {b : Nat} {x : Int} (h0 : L0.unused b) : Own L0 rI (L.alloc b [.int .i64 x] 1) ⟨some ⟨b, 0, none⟩, 1, 1⟩ [x] :=
  ⟨IsSl.of_cells (cs := [.int .i64 x]) (Cells.cons (R := rI) (c := [.int .i64 x]) rfl .nil) rfl (Nat.le_refl _) alloc_reads,
   fun _ => ⟨⟨b, 0, none⟩, rfl, rfl, h0, (fun h => by have := (h.1 ⟨b, 0, none⟩ rfl).1; rw [alloc_mem] at this; cases this), (fun i h1 h2 => by have : 1 * rI.sz ≤ i := h1; have : i < 1 * rI.sz := h2; omega)⟩⟩

theorem arL_len : ∀ (cs : List Int) (b : Int) (acc : List Int), (arL cs b acc).length ≤ cs.length + acc.length
  | [], b, acc => by simp [arL]
  | c :: r, b, acc => by
    unfold arL
    split
    · have := arL_len r c (c :: acc); simp only [List.length_cons] at this ⊢; omega
    · have := arL_len r b acc; simp only [List.length_cons]; omega
theorem arF_len (cs : List Int) : (arF cs).length ≤ cs.length + 1 := by
  have := arL_len cs 1073741824 []
  unfold arF ar0
  split <;> simp only [List.length_cons, List.length_nil] at this ⊢ <;> omega
theorem arF_ne (cs : List Int) : arF cs ≠ [] := by
  unfold arF ar0
  split
  · simp
  · rename_i h; exact fun e => h (.inl e)

theorem around_spec {L : GHeap} {t1 : Addr} {sr : Sl} {rows : List (Int × List Tok)} {i : Nat} (hm : L.mem t1 = some (.slice sr.a sr.n sr.c)) (hr : IsSl rRow L sr rows) (hi : i < rows.length) (hb : rows.length ≤ 1048576) :
    ACalls PP parlref2_TokensOf_1.id ([.int .i64 ((i : Nat) : Int)] ++ [.pointer (some t1)]) L fun v L' => Le L L' ∧ ∃ so : Sl, v = .slice so.a so.n so.c ∧ IsSl rI L' so (arF ((rows.take (i + 1)).map Prod.fst).reverse) := by
  apply parlref2_TokensOf_1.go
  intro b7 hu7
  simp only [inL]
  have hle1 : Le L (L.alloc b7 [] 0) := .alloc hu7 _ _
  generalize L.alloc b7 [] 0 = L1 at *
  generalize hT : arF ((rows.take (i + 1)).map Prod.fst).reverse = T
  have key : ∀ j, j ≤ rows.length → ∀ (L2 : GHeap) (sc : Sl) (acc : List Int) (b : Int), Le L L2 → IsSl rI L2 sc acc → acc.length + j ≤ rows.length → ar0 (arL ((rows.take j).map Prod.fst).reverse b acc) = T →
      parlref2_TokensOf_1.c4 (fun v L' => Le L L' ∧ ∃ so : Sl, v = .slice so.a so.n so.c ∧ IsSl rI L' so T) t1 sc b ((j : Int) - 1) L2 := by
    intro j
    induction j with
    | zero =>
      intro _ L2 sc acc b hle hsc hlen he
      rw [List.take_zero] at he
      have he : ar0 acc = T := he
      have hn := hsc.n
      apply parlref2_TokensOf_1.go4
      refine bcD (fun h => absurd h (by omega)) fun _ => ?_
      have done : ∀ {L3 : GHeap} {so : Sl}, Le L L3 → IsSl rI L3 so T → parlref2_TokensOf_1.c11 (fun v L' => Le L L' ∧ ∃ so : Sl, v = .slice so.a so.n so.c ∧ IsSl rI L' so T) so L3 := fun h1 h2 => parlref2_TokensOf_1.go11 ⟨h1, _, rfl, h2⟩
      have zero : (acc = [] ∨ acc.headD 0 > 0) → parlref2_TokensOf_1.c10 (fun v L' => Le L L' ∧ ∃ so : Sl, v = .slice so.a so.n so.c ∧ IsSl rI L' so T) sc L2 := by
        intro h
        apply parlref2_TokensOf_1.go10
        intro b38 hu
        simp only [inL]
        have hle2 : Le L2 (L2.alloc b38 [.int .i64 0] 1) := .alloc hu _ _
        obtain ⟨cs, hc, hrd⟩ := (hsc.mono hle2.toLeM).cells
        refine ⟨cs, ⟨hrd, hc.one⟩, Own.append (R := rI) (bytes := 8) (m := sc.n) (xs := [0]) (ys := acc) (Own.lit hu) hle2 hc hn.symm (.inl (by simp; omega)) fun s' L' k1 _ k3 _ _ => done (hle.trans k1) ?_⟩
        rw [← he, ar0, if_pos h]; exact k3.sl
      refine bcE (fun h => zero (.inl (List.eq_nil_of_length_eq_zero (by omega)))) fun h => ?_
      cases hacc : acc with
      | nil => rw [hacc] at hn; simp at hn; omega
      | cons x r =>
        refine hsc.get (i := 0) (x := x) (by rw [hacc]; rfl) fun a cs hK hc => ?_
        obtain rfl := hK
        refine ⟨x, reads_one hc, bcD (fun h => zero (.inr (by rw [hacc]; exact h))) fun h => done hle ?_⟩
        rw [← he, ar0, if_neg (by rw [hacc]; rintro (h' | h'); cases h'; exact h h')]
        exact hsc
    | succ j ih =>
      intro hj L2 sc acc b hle hsc hlen he
      have hj' : j < rows.length := by omega
      have hn := hsc.n
      rw [List.take_succ_eq_append_getElem hj', List.map_append, List.reverse_append] at he
      have he : ar0 (arL (rows[j].1 :: ((rows.take j).map Prod.fst).reverse) b acc) = T := he
      unfold arL at he
      have ej : ((j + 1 : Nat) : Int) - 1 = (j : Int) := by omega
      rw [ej]
      have next : ∀ (L3 : GHeap) (sc' : Sl) (acc' : List Int) (b' : Int), Le L L3 → IsSl rI L3 sc' acc' → acc'.length + j ≤ rows.length → ar0 (arL ((rows.take j).map Prod.fst).reverse b' acc') = T → parlref2_TokensOf_1.c5 (fun v L' => Le L L' ∧ ∃ so : Sl, v = .slice so.a so.n so.c ∧ IsSl rI L' so T) t1 sc' b' ((j : Nat) : Int) L3 := by
        intro L3 sc' acc' b' g1 g2 g3 g4
        apply parlref2_TokensOf_1.go5
        unfold parlref2_TokensOf_1.t5
        rw [w64_in (by omega) (by omega)]
        exact ih (by omega) L3 sc' acc' b' g1 g2 g3 g4
      apply parlref2_TokensOf_1.go4
      refine bcD (fun _ => ?_) fun h => absurd (by omega) h
      refine ⟨sr, hle.mem _ _ hm, (hr.mono hle.toLeM).get (List.getElem?_eq_getElem hj') fun a cs hK hc => ?_⟩
      obtain ⟨sx, rfl, hx⟩ := hK
      refine ⟨rows[j].1, by have := hc.1; rwa [add_zero] at this, bcD (fun h => ?_) fun h => ?_⟩
      · rw [if_pos h] at he
        refine ⟨sr, hle.mem _ _ hm, (hr.mono hle.toLeM).get (List.getElem?_eq_getElem hj') fun a cs hK hc => ?_⟩
        obtain ⟨sx, rfl, hx⟩ := hK
        refine ⟨rows[j].1, by have := hc.1; rwa [add_zero] at this, fun b26 hu => ?_⟩
        unfold inL
        have hle2 : Le L2 (L2.alloc b26 [.int .i64 rows[j].1] 1) := .alloc hu _ _
        obtain ⟨cs, hc, hrd⟩ := (hsc.mono hle2.toLeM).cells
        refine ⟨cs, ⟨hrd, hc.one⟩, Own.append (R := rI) (bytes := 8) (m := sc.n) (xs := [rows[j].1]) (ys := acc) (Own.lit hu) hle2 hc hn.symm (.inl (by simp; omega)) fun s' L' k1 _ k3 _ _ => ?_⟩
        exact next L' s' (rows[j].1 :: acc) _ (hle.trans k1) k3.sl (by simp only [List.length_cons]; omega) he
      · rw [if_neg h] at he
        exact next L2 sc acc b hle hsc (by omega) he
  have := key (i + 1) (by omega) L1 ⟨some ⟨b7, 0, none⟩, 0, 0⟩ [] 1073741824 hle1 (.nil _ _ _ _) (by simp; omega) (by rw [← hT]; rfl)
  have ei : ((i + 1 : Nat) : Int) - 1 = (i : Int) := by omega
  rw [ei] at this
  exact this

/-! ### rows -/
theorem endL_append (x y : List Nat) : endL (x ++ y) = endL x + endL y := by unfold endL; rw [List.map_append, List.sum_append]
theorem endL_cons (x : Nat) (y : List Nat) : endL (x :: y) = x + 1 + endL y := by unfold endL; rw [List.map_cons, List.sum_cons]
theorem mineR_append {l1 l2 : List Tok} {a : Int} {n : Nat} : mineR (l1 ++ l2) a n = mineR l1 a n ++ mineR l2 a n := List.filter_append ..

theorem rowsOf_spec {L : GHeap} {text : ByteArray} {s : Sl} {l : List Tok} (hs : IsSl rTok L s l) (ht : text.size ≤ 4000) (hl : l.length ≤ 400) (hf : ∀ t ∈ l, 0 ≤ t.fr ∧ t.fr ≤ 4000) :
    ACalls PP parlref2_rowsOf.id [.string text, .slice s.a s.n s.c] L fun v L' => Le L L' ∧ ∃ so : Sl, v = .slice so.a so.n so.c ∧ IsSl rRow L' so (rowsR text l) := by
  have hn := hs.n
  apply parlref2_rowsOf.go
  refine (Split_spec (s := text) (by omega)).mono ?_
  rintro v L1 ⟨hle1, sp, ss, rfl, hsp, hmap⟩
  refine ⟨sp, rfl, ?_⟩
  have hspn := hsp.n
  have hlens : ss.map ByteArray.size = lens text := by
    unfold lens; rw [← hmap, List.map_map]; exact List.map_congr_left fun x _ => (bl_len x).symm
  have hend : endL (ss.map ByteArray.size) = text.size + 1 := by
    obtain ⟨_, h2⟩ := lns_of (t := text) (bl text).length [] (bl text) (Nat.le_refl _) rfl (.inl rfl)
    rw [bl_len] at h2
    rw [hlens]; exact h2
  have hend' : ∀ i, i ≤ ss.length → endL ((ss.take i).map ByteArray.size) + endL ((ss.drop i).map ByteArray.size) = text.size + 1 := by
    intro i hi
    rw [← hend]
    conv => rhs; rw [← List.take_append_drop i ss]
    rw [List.map_append, endL_append]
  have hcount : ∀ l : List ByteArray, l.length ≤ endL (l.map ByteArray.size) := by
    intro l
    induction l with
    | nil => simp
    | cons x l ih => rw [List.map_cons, endL_cons, List.length_cons]; omega
  have key : ∀ i, i ≤ ss.length → ∀ (L2 : GHeap) (so : Sl) (done : List (Int × List Tok)) (a : Nat), Le L1 L2 → Own L1 rRow L2 so done → done.length ≤ i → a = endL ((ss.take i).map ByteArray.size) → done ++ rowsL l (a : Int) ((ss.drop i).map ByteArray.size) = rowsR text l →
      parlref2_rowsOf.c4 (fun v L' => Le L L' ∧ ∃ so : Sl, v = .slice so.a so.n so.c ∧ IsSl rRow L' so (rowsR text l)) s so ((a : Nat) : Int) sp ((sp.n : Nat) : Int) ((i : Nat) : Int) L2 := by
    refine down ?_ ?_
    · intro L2 so done a hle ho hd ha he
      rw [List.drop_length] at he
      have he : done ++ [] = rowsR text l := he
      rw [List.append_nil] at he
      apply parlref2_rowsOf.go4
      exact bcD (fun h => absurd h (by omega)) fun _ => ⟨hle1.trans hle, so, rfl, by rw [← he]; exact ho.sl⟩
    · intro i hi ih L2 so done a hle ho hd ha he
      have htot := hend' i (by omega)
      have hci := hcount ss
      rw [List.drop_eq_getElem_cons hi] at htot he
      have etk : endL ((ss.take (i + 1)).map ByteArray.size) = a + (ss[i].size + 1) := by
        rw [ha, List.take_succ_eq_append_getElem hi, List.map_append, endL_append]; rfl
      have htot : endL ((ss.take i).map ByteArray.size) + (ss[i].size + 1 + endL ((ss.drop (i + 1)).map ByteArray.size)) = text.size + 1 := by
        rw [← htot, List.map_cons, endL_cons]
      rw [← ha] at htot
      have he : done ++ (rowOf (a : Int) (mineR l (a : Int) ss[i].size) ++ rowsL l ((a : Int) + ss[i].size + 1) ((ss.drop (i + 1)).map ByteArray.size)) = rowsR text l := he
      have hx := List.getElem?_eq_getElem hi
      generalize ss[i] = line at *
      apply parlref2_rowsOf.go4
      refine bcD (fun _ => ?_) fun h => absurd (by omega) h
      refine (hsp.mono hle.toLeM).get hx fun x cs hK hc => ?_
      obtain rfl := hK
      refine ⟨line, reads_one hc, ?_⟩
      have next : ∀ (L3 : GHeap) (so' : Sl) (done' : List (Int × List Tok)), Le L1 L3 → Own L1 rRow L3 so' done' → done'.length ≤ i + 1 → done' ++ rowsL l ((a : Int) + line.size + 1) ((ss.drop (i + 1)).map ByteArray.size) = rowsR text l →
          parlref2_rowsOf.c15 (fun v L' => Le L L' ∧ ∃ so : Sl, v = .slice so.a so.n so.c ∧ IsSl rRow L' so (rowsR text l)) s so' ((a : Nat) : Int) line sp ((sp.n : Nat) : Int) ((i : Nat) : Int) L3 := by
        intro L3 so' done' g1 g2 g3 g4
        apply parlref2_rowsOf.go15
        unfold parlref2_rowsOf.t15
        rw [add_one (by omega), w64_in (by omega) (by omega)]
        apply parlref2_rowsOf.go16
        unfold parlref2_rowsOf.t16
        rw [add_one (by omega)]
        have := ih L3 so' done' (a + (line.size + 1)) g1 g2 g3 etk.symm (by rw [← g4]; congr 2)
        have ec : ((a + (line.size + 1) : Nat) : Int) = (a : Int) + ((line.size + 1 : Nat) : Int) := by omega
        rw [ec] at this
        exact this
      have inner : ∀ j, j ≤ l.length → ∀ (L3 : GHeap) (sm : Sl), Le L1 L3 → Own L1 rRow L3 so done → Own L1 rTok L3 sm (mineR (l.take j) (a : Int) line.size) → Sep sm so →
          parlref2_rowsOf.c8 (fun v L' => Le L L' ∧ ∃ so : Sl, v = .slice so.a so.n so.c ∧ IsSl rRow L' so (rowsR text l)) s so ((a : Nat) : Int) line sm sp ((sp.n : Nat) : Int) ((i : Nat) : Int) s ((s.n : Nat) : Int) ((j : Nat) : Int) L3 := by
        refine down ?_ ?_
        · intro L3 sm g1 g2 g3 g4
          rw [List.take_length] at g3
          have hmn := g3.sl.n
          apply parlref2_rowsOf.go8
          refine bcD (fun h => absurd h (by omega)) fun _ => bcD (fun h => ?_) fun h => ?_
          · cases hmine : mineR l (a : Int) line.size with
            | nil => rw [hmine] at hmn; simp at hmn; omega
            | cons t r =>
              rw [hmine] at g3 he hmn
              have htm : t ∈ mineR l (a : Int) line.size := by rw [hmine]; exact List.mem_cons_self ..
              unfold mineR at htm
              rw [List.mem_filter] at htm
              have htf := hf t htm.1
              have ht2 : (a : Int) ≤ t.fr ∧ t.fr ≤ (a : Int) + line.size := by simpa using htm.2
              refine g3.sl.get (i := 0) (x := t) rfl fun x cs hK hc => ?_
              obtain rfl := hK
              refine ⟨t.fr, hc.2.1, ?_⟩
              rw [w64_in (by omega) (by omega)]
              refine Own.append (R := rRow) (bytes := 32) (m := 1) (ys := [(t.fr - (a : Int), t :: r)]) g2 g1 (Cells.cons (R := rRow) (c := [.int .i64 (t.fr - (a : Int)), .slice sm.a sm.n sm.c]) ⟨sm, rfl, g3.sl⟩ .nil) rfl (.inl (by omega)) fun so' L4 k1 _ k3 _ _ => ?_
              exact next L4 so' _ k1 k3 (by simp; omega) (by rw [← he, List.append_assoc]; rfl)
          · have : mineR l (a : Int) line.size = [] := List.eq_nil_of_length_eq_zero (by omega)
            rw [this] at he
            exact next L3 so done g1 g2 (by omega) he
        · intro j hj ihj L3 sm g1 g2 g3 g4
          have hxj := List.getElem?_eq_getElem hj
          have htf := hf _ (List.getElem_mem hj)
          rw [List.take_succ_eq_append_getElem hj, mineR_append] at ihj
          have hlm : (mineR (l.take j) (a : Int) line.size).length ≤ j := by
            have := List.length_filter_le (fun t : Tok => decide ((a : Int) ≤ t.fr) && decide (t.fr ≤ (a : Int) + line.size)) (l.take j)
            rw [List.length_take] at this
            unfold mineR; omega
          generalize l[j] = t at *
          apply parlref2_rowsOf.go8
          refine bcD (fun _ => ?_) fun h => absurd (by omega) h
          refine ((hs.mono hle1.toLeM).mono g1.toLeM).get hxj fun x cs hK hc => ?_
          obtain rfl := hK
          rw [w64_in (by omega) (by omega)]
          have skip : ¬ ((a : Int) ≤ t.fr ∧ t.fr ≤ (a : Int) + line.size) → parlref2_rowsOf.c12 (fun v L' => Le L L' ∧ ∃ so : Sl, v = .slice so.a so.n so.c ∧ IsSl rRow L' so (rowsR text l)) s so ((a : Nat) : Int) line sm sp ((sp.n : Nat) : Int) ((i : Nat) : Int) s ((s.n : Nat) : Int) ((j : Nat) : Int) L3 := by
            intro h
            have e0 : mineR [t] (a : Int) line.size = [] := by unfold mineR; rw [List.filter_eq_nil_iff]; intro y hy; rw [List.mem_singleton] at hy; subst hy; simpa using h
            rw [e0, List.append_nil] at ihj
            apply parlref2_rowsOf.go12
            unfold parlref2_rowsOf.t12
            rw [add_one (by omega)]
            exact ihj L3 sm g1 g2 g3 g4
          refine ⟨_, _, _, hc, bcD (fun h1 => bcD (fun h2 => ?_) fun h2 => skip fun h => h2 h.2) fun h1 => skip fun h => h1 h.1⟩
          have e1 : mineR [t] (a : Int) line.size = [t] := by unfold mineR; rw [List.filter_eq_self]; intro y hy; rw [List.mem_singleton] at hy; subst hy; simpa using ⟨h1, h2⟩
          rw [e1] at ihj
          refine Own.append (R := rTok) (bytes := 24) (m := 1) (ys := [t]) g3 g1 tok_cells rfl (.inl (by omega)) fun sm' L4 k1 _ k3 _ k5 => ?_
          have hk := k5 rRow so _ g2 g4
          apply parlref2_rowsOf.go12
          unfold parlref2_rowsOf.t12
          rw [add_one (by omega)]
          exact ihj L4 sm' k1 hk.1 k3 hk.2
      exact inner 0 (Nat.zero_le _) L2 ⟨none, 0, 0⟩ hle ho (.nil _ _ _) (fun h => absurd h (Nat.lt_irrefl 0))
  exact key 0 (Nat.zero_le _) L1 ⟨none, 0, 0⟩ [] 0 (.refl _) (.nil _ _ _) (Nat.le_refl _) rfl (by rw [List.drop_zero, hlens]; rfl)
end Go.Proofs.YtpgpognmdejdaaaDoor
