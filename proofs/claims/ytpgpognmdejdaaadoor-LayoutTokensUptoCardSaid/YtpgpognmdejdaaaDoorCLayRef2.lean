/- The reference's layout tokens: TokensOf, walked. -/
import Derived.Test.YtpgpognmdejdaaaDoorCLayRef
import Derived.Test.YtpgpognmdejdaaaDoorLibD
set_option linter.all false
namespace Go.Proofs.YtpgpognmdejdaaaDoor
open Go Go.Proofs.YtpgpognmdejdaaaDoor.GH

theorem rowsL_facts {l : List Tok} : ∀ {ns : List Nat} {a : Int}, (rowsL l a ns).length ≤ ns.length ∧ ∀ x ∈ rowsL l a ns, x.2 ≠ [] ∧ x.2.length ≤ l.length
  | [], a => ⟨Nat.le_refl _, fun x hx => by cases hx⟩
  | n :: ns, a => by
    have ih := rowsL_facts (l := l) (ns := ns) (a := a + n + 1)
    have hm : (mineR l a n).length ≤ l.length := List.length_filter_le ..
    unfold rowsL
    generalize mineR l a n = m at *
    cases m with
    | nil => exact ⟨by simp only [rowOf, List.nil_append, List.length_cons]; omega, fun x hx => ih.2 x (by simpa [rowOf] using hx)⟩
    | cons t r =>
      refine ⟨by simp only [rowOf, List.length_append, List.length_cons, List.length_nil]; omega, fun x hx => ?_⟩
      rcases List.mem_append.1 hx with hx | hx
      · unfold rowOf at hx
        rw [List.mem_singleton] at hx
        rw [hx]
        exact ⟨by simp, hm⟩
      · exact ih.2 x hx

theorem rowsR_len {text : ByteArray} {l : List Tok} : (rowsR text l).length ≤ text.size + 1 := by
  have h := (rowsL_facts (l := l) (ns := lens text) (a := 0)).1
  have h2 : (lens text).length = (bl text).count 10 + 1 := by unfold lens; rw [List.length_map, linesL_len]
  have h3 : (bl text).count 10 ≤ (bl text).length := List.count_le_length
  rw [bl_len] at h3
  unfold rowsR; omega

def prevR (rows : List (Int × List Tok)) (i : Nat) : Option Tok := if i = 0 then none else (rows[i - 1]?).bind fun x => x.2.getLast?

theorem refS_cons {k : Ar3} {p : Option Tok} {was cs : List Int} {c : Int} {ts : List Tok} {r : List (Int × List Tok)} {acc : List Tok} {R : Except Int (List Tok × List Int)} (h : R = prep acc (refS k p was cs ((c, ts) :: r))) :
    (∀ e, refHead k p was (arF (c :: cs)) c (frOf ts) = .error e → R = .error e) ∧ ∀ o, refHead k p was (arF (c :: cs)) c (frOf ts) = .ok o → R = prep (acc ++ layEndO k p ++ o ++ ts) (refS k ts.getLast? (arF (c :: cs)) (c :: cs) r) := by
  unfold refS at h
  refine ⟨fun e he => ?_, fun o he => ?_⟩
  · rw [he] at h; exact h
  · rw [he] at h
    rw [h]
    show prep acc (prep _ _) = _
    rw [prep_prep]
    congr 1
    simp

theorem TokensOf_spec {L : GHeap} {text : ByteArray} {s : Sl} {l : List Tok} {k : Ar3} (hs : IsSl rTok L s l) (hok : LayOk text.size k l) :
    ACalls PP parlref2_TokensOf.id [.string text, .slice s.a s.n s.c, ar3V k] L (TokPost L (refR text k l)) := by
  have hn := hs.n
  have hsz := hok.size
  have hln := hok.len
  apply parlref2_TokensOf.go
  refine (rowsOf_spec hs hsz hln fun t ht => by have := hok.toks t ht; omega).mono ?_
  rintro v L1 ⟨hle1, sr, rfl, hsr⟩
  refine ⟨sr, rfl, ?_⟩
  have hrl := rowsR_len (text := text) (l := l)
  have hrf := (rowsL_facts (l := l) (ns := lens text) (a := 0)).2
  have hrr : refR text k l = refFin k text.size l (refS k none [0] [] (rowsR text l)) := rfl
  rw [hrr]
  have hrf : ∀ x ∈ rowsR text l, x.2 ≠ [] ∧ x.2.length ≤ l.length := hrf
  generalize rowsR text l = rows at *
  generalize hR : refS k none [0] [] rows = R
  have hsn := hsr.n
  intro b9 hu9
  simp only [inL]
  obtain ⟨c1, c2, c3, _⟩ := cell_new hu9 (.slice none 0 0) (.slice sr.a sr.n sr.c)
  refine ⟨c1, ?_⟩
  generalize (L1.alloc b9 [.slice none 0 0] 1).sets ⟨b9, 0, none⟩ 0 [.slice sr.a sr.n sr.c] = L2 at *
  intro b23 hu23
  have hle3 : Le L2 (L2.alloc b23 [.int .i64 0] 1) := .alloc hu23 _ _
  have hw0 : IsSl rI (L2.alloc b23 [.int .i64 0] 1) ⟨some ⟨b23, 0, none⟩, 1, 1⟩ [0] := (Own.lit (L0 := L2) hu23).sl
  have c2' := hle3.mem _ _ c2
  generalize L2.alloc b23 [.int .i64 0] 1 = L3 at *
  have hle : Le L L3 := (hle1.trans c3).trans hle3
  have hsr3 := hsr.mono (c3.trans hle3).toLeM
  have hs3 := hs.mono hle.toLeM
  refine ⟨sr, c2', ?_⟩
  have bad : ∀ {e : Int} {L' : GHeap}, e ≠ 0 → Le L3 L' → R = .error e → TokPost L (refFin k text.size l R) (.tuple #[.slice none 0 0, .int .i64 e]) L' := fun he h1 hr => ⟨hle.trans h1, ⟨none, 0, 0⟩, _, rfl, .inl ⟨he, by rw [hr]; rfl, rfl⟩⟩
  have fin : ∀ (out : List Tok) (was : List Int) (so sw : Sl) (L' : GHeap), Le L3 L' → Own L3 rTok L' so out → IsSl rI L' sw was → out.length ≤ 100000000 → was.length ≤ 5000 → refFin k text.size l R = .ok (out ++ List.replicate (was.length - 1) ⟨k.b, text.size, text.size⟩) →
      parlref2_TokensOf.c31 (TokPost L (refFin k text.size l R)) text so sw k.a k.b k.c L' := by
    intro out was so sw L' h1 h2 h3 h4 h5 h6
    have hwn := h3.n
    apply parlref2_TokensOf.go31
    unfold parlref2_TokensOf.t31
    rw [w64_in (by omega) (by omega)]
    have key : ∀ j, j ≤ was.length - 1 → ∀ (so : Sl) (L4 : GHeap), Le L3 L4 → Own L3 rTok L4 so (out ++ List.replicate j ⟨k.b, text.size, text.size⟩) → parlref2_TokensOf.c32 (TokPost L (refFin k text.size l R)) text so (((sw.n : Nat) : Int) - 1) ((j : Nat) : Int) k.a k.b k.c L4 := by
      refine down ?_ ?_
      · intro so L4 g1 g2
        apply parlref2_TokensOf.go32
        refine bcD (fun h => absurd h (by omega)) fun _ => ⟨hle.trans g1, so, 0, rfl, .inr ⟨rfl, _, h6, g2.sl⟩⟩
      · intro j hj ih so L4 g1 g2
        apply parlref2_TokensOf.go32
        refine bcD (fun _ => ?_) fun h => absurd (by omega) h
        refine ⟨⟨by omega, by omega⟩, Own.append (R := rTok) (bytes := 24) (m := 1) (ys := [⟨k.b, text.size, text.size⟩]) g2 g1 tok_cells rfl (.inl (by rw [List.length_append, List.length_replicate]; omega)) fun so' L5 k1 _ k3 _ _ => ?_⟩
        rw [add_one (by omega)]
        exact ih so' L5 k1 (by rw [List.append_assoc, ← List.replicate_succ'] at k3; exact k3)
    exact key 0 (Nat.zero_le _) so L' h1 (by simpa using h2)
  have hcs : ∀ i, i ≤ rows.length → (arF ((rows.take i).map Prod.fst).reverse).length ≤ 5000 := by
    intro i hi
    have := arF_len ((rows.take i).map Prod.fst).reverse
    rw [List.length_reverse, List.length_map, List.length_take] at this
    omega
  have key : ∀ i, i ≤ rows.length → ∀ (out : List Tok) (so sw : Sl) (L4 : GHeap), Le L3 L4 → Own L3 rTok L4 so out → IsSl rI L4 sw (arF ((rows.take i).map Prod.fst).reverse) → out.length ≤ 10000 * i →
      R = prep out (refS k (prevR rows i) (arF ((rows.take i).map Prod.fst).reverse) ((rows.take i).map Prod.fst).reverse (rows.drop i)) →
      parlref2_TokensOf.c6 (TokPost L (refFin k text.size l R)) text s so ⟨b9, 0, none⟩ parlref2_TokensOf_1.id [.pointer (some ⟨b9, 0, none⟩)] sw sr ((sr.n : Nat) : Int) ((i : Nat) : Int) k.a k.b k.c L4 := by
    refine down ?_ ?_
    · intro out so sw L4 g1 g2 g3 g4 hr
      have hcl := hcs rows.length (Nat.le_refl _)
      rw [List.take_length] at g3 hr hcl
      rw [List.drop_length] at hr
      have hr : R = .ok (out ++ [], arF (rows.map Prod.fst).reverse) := hr
      rw [List.append_nil] at hr
      have hq : refFin k text.size l R = .ok (out ++ layEndO k l.getLast? ++ List.replicate ((arF (rows.map Prod.fst).reverse).length - 1) ⟨k.b, text.size, text.size⟩) := by rw [hr]; rfl
      apply parlref2_TokensOf.go6
      refine bcD (fun h => absurd h (by omega)) fun _ => bcD (fun h => ?_) fun h => ?_
      · have hx := List.getElem?_eq_getElem (l := l) (i := l.length - 1) (by omega)
        have hlastl : l.getLast? = some l[l.length - 1] := by rw [List.getLast?_eq_getElem?, hx]
        generalize l[l.length - 1] = q at *
        have e : w64 (((s.n : Nat) : Int) - 1) = ((l.length - 1 : Nat) : Int) := by rw [w64_in (by omega) (by omega)]; omega
        rw [e]
        refine ⟨⟨by omega, by omega⟩, (hs3.mono g1.toLeM).get hx fun a cs hK hc => (hs3.mono g1.toLeM).get hx fun a' cs' hK' hc' => ?_⟩
        obtain rfl := hK
        obtain rfl := hK'
        have hm := hc.2.2.1
        have hm' := hc'.2.2.1
        have leaf : appendK 3 24 L4 so 1 [.int .i64 k.c, .int .i64 q.to, .int .i64 q.to] fun x139 L' => parlref2_TokensOf.c31 (TokPost L (refFin k text.size l R)) text x139 sw k.a k.b k.c L' := by
          refine Own.append (R := rTok) (bytes := 24) (m := 1) (ys := [⟨k.c, q.to, q.to⟩]) g2 g1 tok_cells rfl (.inl (by omega)) fun so' L5 k1 k2 k3 _ _ => ?_
          exact fin _ _ so' sw L5 k1 k3 (g3.mono k2) (by simp only [List.length_append, List.length_cons, List.length_nil]; omega) hcl (by rw [hq, hlastl]; rfl)
        exact ⟨⟨_, hm, _, hm', leaf⟩, _, hm', _, hm, leaf⟩
      · have : l = [] := List.eq_nil_of_length_eq_zero (by omega)
        refine fin out _ so sw L4 g1 g2 g3 (by omega) hcl ?_
        rw [hq, this]; simp [layEndO]
    · intro i hi ih out so sw L4 g1 g2 g3 g4 hr
      have hcl := hcs i (by omega)
      have hcl' := hcs (i + 1) (by omega)
      rw [List.drop_eq_getElem_cons hi] at hr
      have hx := List.getElem?_eq_getElem hi
      have hmem := List.getElem_mem hi
      have hprev : prevR rows (i + 1) = rows[i].2.getLast? := by unfold prevR; rw [if_neg (by omega), Nat.add_sub_cancel, hx]; rfl
      have hcsn : ((rows.take (i + 1)).map Prod.fst).reverse = rows[i].1 :: ((rows.take i).map Prod.fst).reverse := by rw [List.take_succ_eq_append_getElem hi, List.map_append, List.reverse_append]; rfl
      have har := around_spec (i := i) (g1.mem _ _ c2') (hsr3.mono g1.toLeM) hi (by omega)
      rw [hcsn] at ih har hcl'
      generalize rows[i] = row at *
      obtain ⟨c, ts⟩ := row
      obtain ⟨herr, hstep⟩ := refS_cons hr
      clear hr
      obtain ⟨hne, htl⟩ := hrf _ hmem
      simp only at hne htl har ih hprev hcl'
      generalize hwas : arF ((rows.take i).map Prod.fst).reverse = was at *
      generalize hnow : arF (c :: ((rows.take i).map Prod.fst).reverse) = now at *
      have hnem : was ≠ [] := by rw [← hwas]; exact arF_ne _
      have hwpos : 0 < was.length := List.length_pos_iff.2 hnem
      obtain ⟨t0, r0, hts⟩ : ∃ t r, ts = t :: r := by
        cases ts with
        | nil => exact absurd rfl hne
        | cons t r => exact ⟨t, r, rfl⟩
      have hfr : frOf ts = t0.fr := by rw [hts]; rfl
      rw [hfr] at herr hstep
      apply parlref2_TokensOf.go6
      refine bcD (fun _ => ?_) fun h => absurd (by omega) h
      refine (hsr3.mono g1.toLeM).get hx fun a cs hK hc => ?_
      obtain ⟨st, rfl, hst⟩ := hK
      have hst : IsSl rTok L4 st ts := hst
      have hstn := hst.n
      refine ⟨c, st, hc, ?_⟩
      -- after the head's tokens
      have tail : ∀ (o : List Tok) (so : Sl) (sn : Sl) (L5 : GHeap), Le L3 L5 → Own L3 rTok L5 so (out ++ layEndO k (prevR rows i) ++ o) → IsSl rI L5 sn now → IsSl rTok L5 st ts → o.length ≤ 6000 → refHead k (prevR rows i) was now c t0.fr = .ok o →
          parlref2_TokensOf.c25 (TokPost L (refFin k text.size l R)) text s so ⟨b9, 0, none⟩ parlref2_TokensOf_1.id [.pointer (some ⟨b9, 0, none⟩)] sn sr ((sr.n : Nat) : Int) ((i : Nat) : Int) k.a k.b k.c c st L5 := by
        intro o so sn L5 h1 h2 h3 h4 h5 h6
        have hel : (layEndO k (prevR rows i)).length ≤ 1 := by unfold layEndO; split <;> simp
        apply parlref2_TokensOf.go25
        unfold parlref2_TokensOf.t25
        apply parlref2_TokensOf.go26
        obtain ⟨cs, hcc, hrd⟩ := h4.cells
        refine ⟨cs, ⟨hrd, hcc.one⟩, Own.append (R := rTok) (bytes := 24) (m := st.n) (ys := ts) h2 h1 hcc hstn.symm (.inl (by simp only [List.length_append]; omega)) fun so' L6 k1 k2 k3 _ _ => ?_⟩
        apply parlref2_TokensOf.go27
        unfold parlref2_TokensOf.t27
        rw [add_one (by omega)]
        refine ih _ so' sn L6 k1 k3 (h3.mono k2) (by simp only [List.length_append]; omega) ?_
        rw [hprev]
        exact hstep o h6
      -- the head
      have head : ∀ (so sn : Sl) (L5 : GHeap), Le L3 L5 → Own L3 rTok L5 so (out ++ layEndO k (prevR rows i)) → IsSl rI L5 sn now → IsSl rI L5 sw was → IsSl rTok L5 st ts →
          parlref2_TokensOf.c12 (TokPost L (refFin k text.size l R)) text s so ⟨b9, 0, none⟩ parlref2_TokensOf_1.id [.pointer (some ⟨b9, 0, none⟩)] sw ((i : Nat) : Int) sn t0.fr sr ((sr.n : Nat) : Int) ((i : Nat) : Int) k.a k.b k.c c st L5 := by
        intro so sn L5 h1 h2 h3 h4 h5
        have hwn := h4.n
        have hnn := h3.n
        have hel : (layEndO k (prevR rows i)).length ≤ 1 := by unfold layEndO; split <;> simp
        have hpn : prevR rows i = none ↔ i = 0 := by
          constructor
          · intro h
            rcases Nat.eq_zero_or_pos i with h0 | h0
            · exact h0
            · exfalso
              unfold prevR at h
              rw [if_neg (by omega), List.getElem?_eq_getElem (by omega)] at h
              have hz := (hrf _ (List.getElem_mem (l := rows) (n := i - 1) (by omega))).1
              have : (rows[i - 1]'(by omega)).2.getLast? = none := h
              rw [List.getLast?_eq_none_iff] at this
              exact hz this
          · intro h; unfold prevR; rw [if_pos h]
        have e : w64 (((sw.n : Nat) : Int) - 1) = ((was.length - 1 : Nat) : Int) := by rw [w64_in (by omega) (by omega)]; omega
        have hlast : was[was.length - 1]? = some (was.getLastD 0) := by
          rw [List.getLastD_eq_getLast?, List.getLast?_eq_getElem?, List.getElem?_eq_getElem (by omega)]; rfl
        apply parlref2_TokensOf.go12
        unfold parlref2_TokensOf.t12
        rw [e]
        refine h4.get hlast fun a cs hK hc' => ?_
        obtain rfl := hK
        refine ⟨_, reads_one hc', ?_⟩
        apply parlref2_TokensOf.go17
        refine bcD (fun hlt => ?_) fun hlt => ?_
        · apply parlref2_TokensOf.go18
          refine bcE (fun h0 => ?_) fun h0 => ?_
          · apply parlref2_TokensOf.go19
            exact bad (by decide) h1 (herr 3 (by unfold refHead; rw [if_pos hlt, if_pos (hpn.2 (by omega))]))
          · apply parlref2_TokensOf.go20
            have hp' : ¬ prevR rows i = none := fun h => h0 (by rw [hpn.1 h]; rfl)
            refine bcD (fun h20 => ?_) fun h20 => ?_
            · apply parlref2_TokensOf.go21
              exact bad (by decide) h1 (herr 11 (by unfold refHead; rw [if_pos hlt, if_neg hp', if_pos (by omega)]))
            · apply parlref2_TokensOf.go22
              refine ⟨⟨by omega, by omega⟩, Own.append (R := rTok) (bytes := 24) (m := 1) (ys := [⟨k.a, t0.fr, t0.fr⟩]) h2 h1 tok_cells rfl (.inl (by simp only [List.length_append]; omega)) fun so' L6 k1 k2 k3 _ _ => ?_⟩
              exact tail _ so' sn L6 k1 k3 (h3.mono k2) (h5.mono k2) (by simp) (by unfold refHead; rw [if_pos hlt, if_neg hp', if_neg (by omega)])
        · apply parlref2_TokensOf.go23
          refine (Contains_ro (v := c) h4 (by omega)).use ⟨_, rfl, bcN (bcD (fun hm => ?_) fun hm => ?_)⟩
          · apply parlref2_TokensOf.go13
            unfold parlref2_TokensOf.t13
            rw [w64_in (by omega) (by omega)]
            have rep : ∀ j, j ≤ was.length - now.length → ∀ (so : Sl) (L6 : GHeap), Le L3 L6 → Own L3 rTok L6 so (out ++ layEndO k (prevR rows i) ++ List.replicate j ⟨k.b, t0.fr, t0.fr⟩) → IsSl rI L6 sn now → IsSl rTok L6 st ts →
                parlref2_TokensOf.c14 (TokPost L (refFin k text.size l R)) text s so ⟨b9, 0, none⟩ parlref2_TokensOf_1.id [.pointer (some ⟨b9, 0, none⟩)] sn t0.fr sr ((sr.n : Nat) : Int) ((i : Nat) : Int) (((sw.n : Nat) : Int) - ((sn.n : Nat) : Int)) ((j : Nat) : Int) k.a k.b k.c c st L6 := by
              refine down ?_ ?_
              · intro so L6 f1 f2 f3 f4
                apply parlref2_TokensOf.go14
                refine bcD (fun h => absurd h (by omega)) fun _ => ?_
                exact tail _ so sn L6 f1 f2 f3 f4 (by rw [List.length_replicate]; omega) (by unfold refHead; rw [if_neg hlt, if_neg (by simpa using hm)])
              · intro j hj ihj so L6 f1 f2 f3 f4
                apply parlref2_TokensOf.go14
                refine bcD (fun _ => ?_) fun h => absurd (by omega) h
                refine ⟨⟨by omega, by omega⟩, Own.append (R := rTok) (bytes := 24) (m := 1) (ys := [⟨k.b, t0.fr, t0.fr⟩]) f2 f1 tok_cells rfl (.inl (by simp only [List.length_append, List.length_replicate]; omega)) fun so' L7 k1 k2 k3 _ _ => ?_⟩
                rw [add_one (by omega)]
                exact ihj so' L7 k1 (by rw [List.append_assoc, ← List.replicate_succ'] at k3; exact k3) (f3.mono k2) (f4.mono k2)
            exact rep 0 (Nat.zero_le _) so L5 h1 (by simpa using h2) h3 h5
          · apply parlref2_TokensOf.go24
            exact bad (by decide) h1 (herr 3 (by unfold refHead; rw [if_neg hlt, if_pos (by simpa using hm)]))
      have nine : ∀ (so sn : Sl) (L5 : GHeap), Le L3 L5 → Own L3 rTok L5 so out → IsSl rI L5 sn now → IsSl rI L5 sw was → IsSl rTok L5 st ts →
          parlref2_TokensOf.c9 (TokPost L (refFin k text.size l R)) text s so ⟨b9, 0, none⟩ parlref2_TokensOf_1.id [.pointer (some ⟨b9, 0, none⟩)] sw ((i : Nat) : Int) sn t0.fr sr ((sr.n : Nat) : Int) ((i : Nat) : Int) k.a k.b k.c c st L5 := by
        intro so sn L5 h1 h2 h3 h4 h5
        apply parlref2_TokensOf.go9
        refine bcD (fun hpos => ?_) fun hpos => ?_
        · obtain ⟨i', rfl⟩ : ∃ i', i = i' + 1 := ⟨i - 1, by omega⟩
          have hxp := List.getElem?_eq_getElem (l := rows) (i := i') (by omega)
          have hpr := hrf _ (List.getElem_mem (l := rows) (n := i') (by omega))
          have ep : prevR rows (i' + 1) = (rows[i']'(by omega)).2.getLast? := by unfold prevR; rw [if_neg (by omega), Nat.add_sub_cancel, hxp]; rfl
          generalize (rows[i']'(by omega)) = pr at *
          have ew : w64 (((i' + 1 : Nat) : Int) - 1) = ((i' : Nat) : Int) := by rw [w64_in (by omega) (by omega)]; omega
          have hlp := List.length_pos_iff.2 hpr.1
          have hxq := List.getElem?_eq_getElem (l := pr.2) (i := pr.2.length - 1) (by omega)
          have elq : pr.2.getLast? = some pr.2[pr.2.length - 1] := by rw [List.getLast?_eq_getElem?, hxq]
          generalize pr.2[pr.2.length - 1] = q at *
          apply parlref2_TokensOf.go10
          unfold parlref2_TokensOf.t10
          rw [ew]
          refine ⟨sr, h1.mem _ _ c2', (hsr3.mono h1.toLeM).get hxp fun a cs hK hc1 => ?_⟩
          obtain ⟨s1, rfl, hs1⟩ := hK
          refine ⟨s1, hc1.2.1, sr, h1.mem _ _ c2', (hsr3.mono h1.toLeM).get hxp fun a cs hK hc2 => ?_⟩
          obtain ⟨s2, rfl, hs2⟩ := hK
          have hs1n := hs1.n
          have hs2n := hs2.n
          have ex : w64 (((s2.n : Nat) : Int) - 1) = ((pr.2.length - 1 : Nat) : Int) := by rw [w64_in (by omega) (by omega)]; omega
          refine ⟨s2, hc2.2.1, ?_⟩
          rw [ex]
          refine hs1.get hxq fun a cs hK hc3 => ?_
          obtain rfl := hK
          refine ⟨q.to, hc3.2.2.1, ?_⟩
          apply parlref2_TokensOf.go11
          refine ⟨⟨by omega, by omega⟩, Own.append (R := rTok) (bytes := 24) (m := 1) (ys := [⟨k.c, q.to, q.to⟩]) h2 h1 tok_cells rfl (.inl (by omega)) fun so' L6 k1 k2 k3 _ _ => ?_⟩
          refine head so' sn L6 k1 ?_ (h3.mono k2) (h4.mono k2) (h5.mono k2)
          rw [ep, elq]; exact k3
        · have : i = 0 := by omega
          subst this
          refine head so sn L5 h1 ?_ h3 h4 h5
          have : prevR rows 0 = none := rfl
          rw [this]; simpa [layEndO] using h2
      refine hst.get (i := 0) (x := t0) (by rw [hts]; rfl) fun a cs hK hc0 => ?_
      obtain rfl := hK
      have hfrm := hc0.2.1
      refine ⟨har.mono ?_, t0.fr, hfrm, har.mono ?_⟩
      · rintro v L5 ⟨hle5, sn, rfl, hsn5⟩
        exact ⟨sn, rfl, t0.fr, hle5.mem _ _ hfrm, nine so sn L5 (g1.trans hle5) (g2.mono hle5) hsn5 (g3.mono hle5.toLeM) (hst.mono hle5.toLeM)⟩
      · rintro v L5 ⟨hle5, sn, rfl, hsn5⟩
        exact ⟨sn, rfl, nine so sn L5 (g1.trans hle5) (g2.mono hle5) hsn5 (g3.mono hle5.toLeM) (hst.mono hle5.toLeM)⟩
  exact key 0 (Nat.zero_le _) [] ⟨none, 0, 0⟩ _ L3 (.refl _) (.nil _ _ _) hw0 (Nat.le_refl _) (by rw [← hR]; exact (prep_nil _).symm)
end Go.Proofs.YtpgpognmdejdaaaDoor
