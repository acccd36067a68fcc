/- parlref2.FirstOf: what a list of symbols begins with. -/
import Derived.Test.YtjmpheidcofhnaaDoorCEdges
import Derived.Test.YtjmpheidcofhnaaDoorCFstLaw
set_option linter.all false
namespace Go.Proofs.YtjmpheidcofhnaaDoor
open Go Go.Proofs.YtjmpheidcofhnaaDoor.GH

/-! ### the law -/
section
variable {g : Gram}

/-- A list begins with a terminal where one of its symbols, with only empty ones before it, leads to it. -/
theorem fst_walk (hv : Valid g) {t : Int} (ht : 0 ≤ t ∧ t < g.terms) {l : List Sym} (hl : ∀ s ∈ l, SymOk g.terms g.nons s) :
    Fst g l t ↔ ∃ (i : Nat) (s : Sym), l[i]? = some s ∧ Ds g (l.take i) [] ∧ ∃ k, Walk (EdN g false) k (nodeI g s) t := by
  constructor
  · intro h
    have key : ∀ {ss : List Sym} {x : Int}, Fst g ss x → x = t → ∃ (i : Nat) (s : Sym), ss[i]? = some s ∧ Ds g (ss.take i) [] ∧ ∃ k, Walk (EdN g false) k (nodeI g s) t := by
      intro ss x h
      induction h with
      | @term x ss => rintro rfl; exact ⟨0, _, rfl, .nil, 0, rfl⟩
      | @non r ss x hr hf ih =>
        rintro rfl
        obtain ⟨i, s, h1, h2, k, h3⟩ := ih rfl
        exact ⟨0, _, rfl, .nil, k + 1, Walk.cons ⟨r, hr, i, s, h1, h2, rfl, rfl⟩ h3⟩
      | @skip n ss x hd hf ih =>
        rintro rfl
        obtain ⟨i, s, h1, h2, h3⟩ := ih rfl
        exact ⟨i + 1, s, by simpa using h1, by rw [List.take_succ_cons]; exact (ds_nil_append (xs := [⟨false, n⟩])).2 ⟨hd, h2⟩, h3⟩
    exact key h rfl
  · rintro ⟨i, s, h1, h2, k, h3⟩
    have one : ∀ (k : Nat) (s : Sym), SymOk g.terms g.nons s → Walk (EdN g false) k (nodeI g s) t → Fst g [s] t := by
      intro k
      induction k with
      | zero =>
        intro s hs hw
        have hw : nodeI g s = t := hw
        obtain ⟨st, sn⟩ := s
        cases st with
        | true => have : sn = t := by simpa [nodeI] using hw
                  subst this; exact .term
        | false =>
          have h0 := hs.1
          simp [nodeI] at hw
          simp only at h0
          omega
      | succ k ih =>
        intro s hs hw
        obtain ⟨c, hE, hw'⟩ := hw.head
        obtain ⟨r, hr, i, s', g1, g2, g3, rfl⟩ := hE
        have hrok := (hv.ok r hr).1
        have hs' := hrok.right s' (List.mem_of_getElem? g1)
        have hf := ih s' hs' hw'
        have hrs : Fst g r.right t := by
          have e : r.right = r.right.take i ++ (s' :: r.right.drop (i + 1)) := by
            obtain ⟨hi, rfl⟩ := List.getElem?_eq_some_iff.1 g1
            rw [← List.drop_eq_getElem_cons hi, List.take_append_drop]
          rw [e]
          exact Fst.past (by simpa using g2) (hf.app (ys := r.right.drop (i + 1)))
        obtain ⟨st, sn⟩ := s
        have hl0 := hrok.left
        cases st with
        | true => have := hs.2.1 rfl; simp [nodeI] at g3; simp only at this; omega
        | false =>
          have : sn = r.left := by simp [nodeI] at g3; omega
          subst this; exact .non hr hrs
    have hs := hl s (List.mem_of_getElem? h1)
    have e : l = l.take i ++ (s :: l.drop (i + 1)) := by
      obtain ⟨hi, rfl⟩ := List.getElem?_eq_some_iff.1 h1
      rw [← List.drop_eq_getElem_cons hi, List.take_append_drop]
    rw [e]
    exact Fst.past h2 ((one k s hs h3).app (ys := l.drop (i + 1)))
end

section
variable {L : GHeap} {g : Gram} {sg : Sl}

theorem FirstOf_spec {lens : List Int} {sl : Sl} {l : List Sym} (hv : Valid g) (hln : LenSpec g lens) (hs : IsSl rRule L sg g.rules) (hl : IsSl rSym L sl l) (hok : ∀ s ∈ l, SymOk g.terms g.nons s) (hb : l.length ≤ 1048576) :
    ACalls PP parlref2_FirstOf.id [gramV g sg, .slice sl.a sl.n sl.c] L fun v L' => Le L L' ∧ ∃ (so : Sl) (M : Nat → Prop) (out : List Bool), v = .slice so.a so.n so.c ∧ PA Value.bool L L' M so out ∧ Le L (L'.off M) ∧ FstL g l out := by
  have ht := hv.terms
  have hnn := hv.nons
  have hsln := hl.n
  apply parlref2_FirstOf.go
  refine (Nulls_spec hv hln hs).mono ?_
  rintro v L1 ⟨hle1, sn, rfl, hn⟩
  have hnu := hln.null
  refine ⟨sn, rfl, (Edges_spec hv hln (hs.mono hle1.toLeM)).mono ?_⟩
  rintro v L2 ⟨hle2, se, rows, rfl, hrows, hT, hall⟩
  have hle02 := hle1.trans hle2
  refine ⟨se, rfl, ⟨by omega, by omega, by omega⟩, fun b hu => ?_⟩
  rw [Nat.mul_one]
  simp only [inL]
  obtain ⟨hpa, hoff⟩ := PA.new (f := Value.bool) (L0 := L) (z := false) (v := .bool false) (n := g.terms.toNat) rfl hu hle02.toLeM (by omega)
  generalize L2.alloc b (zeros g.terms.toNat [.bool false]) g.terms.toNat = L3 at *
  have hn2 := hn.mono hle2.toLeM
  have hl2 := hl.mono hle02.toLeM
  generalize (lens.map fun k => k == 0) = null at *
  have hnl := hnu.1
  -- what is in the set when all symbols before i are in
  have fin : ∀ (L4 : GHeap) (out : List Bool), PA Value.bool L L4 (· = b) ⟨some ⟨b, 0, none⟩, g.terms.toNat, g.terms.toNat⟩ out → Le L2 (L4.off (· = b)) → FstL g l out → parlref2_FirstOf.c13 (fun v L' => Le L L' ∧ ∃ (so : Sl) (M : Nat → Prop) (out : List Bool), v = .slice so.a so.n so.c ∧ PA Value.bool L L' M so out ∧ Le L (L'.off M) ∧ FstL g l out) ⟨some ⟨b, 0, none⟩, g.terms.toNat, g.terms.toNat⟩ L4 := by
    intro L4 out hp hle hf
    apply parlref2_FirstOf.go13
    exact ⟨hp.le (hle02.trans hle), _, _, out, rfl, hp, hle02.trans hle, hf⟩
  have key : ∀ i, i ≤ l.length → ∀ (L4 : GHeap) (out : List Bool), PA Value.bool L L4 (· = b) ⟨some ⟨b, 0, none⟩, g.terms.toNat, g.terms.toNat⟩ out → Le L2 (L4.off (· = b)) → out.length = g.terms.toNat →
      (∀ t : Nat, t < g.terms.toNat → (out.getD t false = true ↔ ∃ (q : Nat) (s : Sym), q < i ∧ l[q]? = some s ∧ Ds g (l.take q) [] ∧ ∃ k, Walk (EdN g false) k (nodeI g s) t)) →
      parlref2_FirstOf.c4 (fun v L' => Le L L' ∧ ∃ (so : Sl) (M : Nat → Prop) (out : List Bool), v = .slice so.a so.n so.c ∧ PA Value.bool L L' M so out ∧ Le L (L'.off M) ∧ FstL g l out) sl sn se ⟨some ⟨b, 0, none⟩, g.terms.toNat, g.terms.toNat⟩ sl ((sl.n : Nat) : Int) ((i : Nat) : Int) g.terms g.nons g.start sg L4 := by
    refine down ?_ ?_
    · intro L4 out hp hle hol hd
      apply parlref2_FirstOf.go4
      refine bcD (fun h => absurd h (by omega)) fun _ => fin L4 out hp hle ⟨hol, fun t htl => ?_⟩
      rw [hd t htl, fst_walk hv ⟨by omega, by omega⟩ hok]
      constructor
      · rintro ⟨q, s, _, h⟩; exact ⟨q, s, h⟩
      · rintro ⟨q, s, h1, h⟩; exact ⟨q, s, (List.getElem?_eq_some_iff.1 h1).1, h1, h⟩
    · intro i hi ih L4 out hp hle hol hd
      have hm : LeM L2 L4 := hle.toLeM.trans off_le
      have hsok := hok _ (List.getElem_mem hi)
      have hnb := nodeI_bound hv hsok
      have hlc := hl.c
      have htk : ∀ s ∈ l.take i, SymOk g.terms g.nons s := fun s hs' => hok s (List.mem_of_mem_take hs')
      apply parlref2_FirstOf.go4
      refine bcD (fun _ => ?_) fun h => absurd (by omega) h
      refine (hl2.mono hm).get (List.getElem?_eq_getElem hi) fun a cs hK hc => ?_
      obtain rfl := hK
      refine ⟨_, _, hc, ⟨by omega, by omega⟩, ?_⟩
      rw [Int.toNat_natCast]
      refine ACalls.off hp.live (empty_spec (sn := sn) (sl := ⟨sl.a, i, sl.c⟩) (null := null) (l := l.take i) (hn2.mono hle.toLeM) ((hl2.mono hle.toLeM).take (by omega)) (fun s hs' hst => by have h := htk s hs'; have := h.2.2 hst; exact ⟨h.1, by omega⟩) (by rw [List.length_take]; omega)) ?_
      rintro v L5 hsame _ ⟨rfl, hle5⟩
      have hp5 := hp.same hsame
      have hle25 := hle.trans hle5
      refine ⟨_, rfl, bcN (bcI (fun he => ?_) fun he => ?_)⟩
      · have hds := (all_emp hnu htk).1 he
        have sets : ∀ j, j ≤ g.terms.toNat → ∀ (L6 : GHeap) (out' : List Bool), PA Value.bool L L6 (· = b) ⟨some ⟨b, 0, none⟩, g.terms.toNat, g.terms.toNat⟩ out' → L6.off (· = b) = L5.off (· = b) → out'.length = g.terms.toNat →
            (∀ t : Nat, t < g.terms.toNat → (out'.getD t false = true ↔ out.getD t false = true ∨ (t < j ∧ ∃ k, Walk (EdN g false) k (nodeI g l[i]) t))) →
            parlref2_FirstOf.c8 (fun v L' => Le L L' ∧ ∃ (so : Sl) (M : Nat → Prop) (out : List Bool), v = .slice so.a so.n so.c ∧ PA Value.bool L L' M so out ∧ Le L (L'.off M) ∧ FstL g l out) sl sn se ⟨some ⟨b, 0, none⟩, g.terms.toNat, g.terms.toNat⟩ sl ((sl.n : Nat) : Int) ((i : Nat) : Int) ((g.terms.toNat : Nat) : Int) ((j : Nat) : Int) g.terms g.nons g.start sg l[i].term l[i].n L6 := by
          refine down ?_ ?_
          · intro L6 out' hp6 ho6 hol6 hd6
            apply parlref2_FirstOf.go8
            refine bcD (fun h => absurd h (by omega)) fun _ => ?_
            rw [add_one (by omega)]
            refine ih L6 out' hp6 (by rw [ho6]; exact hle25) hol6 fun t htl => ?_
            rw [hd6 t htl, hd t htl]
            constructor
            · rintro (⟨q, s, h1, h⟩ | ⟨_, h⟩)
              · exact ⟨q, s, by omega, h⟩
              · exact ⟨i, _, by omega, List.getElem?_eq_getElem hi, hds, h⟩
            · rintro ⟨q, s, h1, h2, h3, h4⟩
              by_cases e : q = i
              · subst e
                rw [List.getElem?_eq_getElem hi] at h2; cases h2
                exact .inr ⟨htl, h4⟩
              · exact .inl ⟨q, s, by omega, h2, h3, h4⟩
          · intro j hj ihj L6 out' hp6 ho6 hol6 hd6
            have hm6 : LeM L2 L6 := by
              have : LeM L2 (L6.off (· = b)) := by rw [ho6]; exact hle25.toLeM
              exact this.trans off_le
            have hlt : j < out'.length := by omega
            have nx : ∀ (L7 : GHeap) (x : Bool), (x = true ↔ out'.getD j false = true ∨ ∃ k, Walk (EdN g false) k (nodeI g l[i]) j) → PA Value.bool L L7 (· = b) ⟨some ⟨b, 0, none⟩, g.terms.toNat, g.terms.toNat⟩ (out'.set j x) → L7.off (· = b) = L6.off (· = b) →
                parlref2_FirstOf.c11 (fun v L' => Le L L' ∧ ∃ (so : Sl) (M : Nat → Prop) (out : List Bool), v = .slice so.a so.n so.c ∧ PA Value.bool L L' M so out ∧ Le L (L'.off M) ∧ FstL g l out) sl sn se ⟨some ⟨b, 0, none⟩, g.terms.toNat, g.terms.toNat⟩ sl ((sl.n : Nat) : Int) ((i : Nat) : Int) ((g.terms.toNat : Nat) : Int) ((j : Nat) : Int) g.terms g.nons g.start sg l[i].term l[i].n L7 := by
              intro L7 x hx hp7 ho7
              apply parlref2_FirstOf.go11
              unfold parlref2_FirstOf.t11
              rw [add_one (by omega)]
              refine ihj L7 _ hp7 (ho7.trans ho6) (by rw [List.length_set]; exact hol6) fun t htl => ?_
              rw [getB_set hlt]
              split
              · rename_i e
                subst e
                rw [hx, hd6 t htl]
                constructor
                · rintro ((h | ⟨h1, _⟩) | h)
                  · exact .inl h
                  · omega
                  · exact .inr ⟨by omega, h⟩
                · rintro (h | ⟨_, h⟩)
                  · exact .inl (.inl h)
                  · exact .inr h
              · rename_i e
                rw [hd6 t htl]
                constructor
                · rintro (h | ⟨h1, h⟩)
                  · exact .inl h
                  · exact .inr ⟨by omega, h⟩
                · rintro (h | ⟨h1, h⟩)
                  · exact .inl h
                  · exact .inr ⟨by omega, h⟩
            apply parlref2_FirstOf.go8
            refine bcD (fun _ => ?_) fun h => absurd (by omega) h
            refine hp6.get (List.getElem?_eq_getElem hlt) fun a3 hc3 => ⟨_, hc3, bcI (fun h1 => ?_) fun h1 => ?_⟩
            · refine hp6.set hlt (x := true) rfl fun L7 hp7 ho7 => nx L7 true ?_ hp7 ho7
              exact ⟨fun _ => .inl (by rw [getB_get hlt]; exact h1), fun _ => rfl⟩
            · refine (node_ro (sg := sg) (s := l[i]) ⟨by omega, by omega⟩ ⟨hsok.1, ?_⟩).use ⟨_, rfl, ?_⟩
              · cases ht' : l[i].term with
                | true => have := hsok.2.1 ht'; omega
                | false => have := hsok.2.2 ht'; omega
              obtain ⟨row, v, r1, r2, r3, r4⟩ := hT.get (i := (nodeI g l[i]).toNat) (j := j) (by omega) (by omega)
              refine (hrows.mono hm6).getI hnb.1 r1 fun a4 cs4 hK4 hc4 => ?_
              obtain ⟨sr, rfl, hsr⟩ := hK4
              refine ⟨sr, reads_one hc4, hsr.get r2 fun a5 cs5 hK5 hc5 => ?_⟩
              obtain rfl := hK5
              refine ⟨_, reads_one hc5, hp6.set hlt (x := v) rfl fun L7 hp7 ho7 => nx L7 v ?_ hp7 ho7⟩
              have h2 := hall (nodeI g l[i]).toNat j (by omega) (by omega)
              rw [r4, Int.toNat_of_nonneg hnb.1] at h2
              rw [h2, getB_get hlt, h1]
              exact ⟨fun h => .inr h, fun h => h.elim (fun h => by cases h) fun h => h⟩
        exact sets 0 (Nat.zero_le _) L5 out hp5 rfl hol fun t htl => ⟨fun h => .inl h, fun h => h.elim (fun h => h) fun h => by omega⟩
      · refine fin L5 out hp5 hle25 ⟨hol, fun t htl => ?_⟩
        rw [hd t htl, fst_walk hv ⟨by omega, by omega⟩ hok]
        constructor
        · rintro ⟨q, s, _, h⟩; exact ⟨q, s, h⟩
        · rintro ⟨q, s, h1, h2, h3⟩
          refine ⟨q, s, Nat.lt_of_not_le fun hge => ?_, h1, h2, h3⟩
          have : Ds g (l.take i) [] := by
            have e : l.take q = l.take i ++ (l.drop i).take (q - i) := by rw [← List.take_add]; congr 1; omega
            rw [e] at h2
            exact (ds_nil_append.1 h2).1
          rw [(all_emp hnu htk).2 this] at he; cases he
  exact key 0 (Nat.zero_le _) L3 _ hpa (by rw [hoff]; exact .refl _) (by simp) fun t htl => ⟨fun h => (by rw [List.getD_eq_getElem?_getD, List.getElem?_replicate, if_pos htl] at h; cases h), fun ⟨q, s, h, _⟩ => by omega⟩
end
end Go.Proofs.YtjmpheidcofhnaaDoor
