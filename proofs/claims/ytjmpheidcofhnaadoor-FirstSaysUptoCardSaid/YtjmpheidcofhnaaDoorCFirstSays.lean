/- parllaw2.FirstSays: Null, First and Of return what chapter 21 specifies. -/
import Derived.Test.YtjmpheidcofhnaaDoorVAll0
import Derived.Test.YtjmpheidcofhnaaDoorCSameRows
import Derived.Test.YtjmpheidcofhnaaDoorCFOf
import Derived.Test.YtjmpheidcofhnaaDoorCFirstOf
import Derived.Test.YtjmpheidcofhnaaDoorCGramErr2
import Derived.Test.YtjmpheidcofhnaaDoorCSimLens
set_option linter.all false
namespace Go.Proofs.YtjmpheidcofhnaaDoor
open Go Go.Proofs.YtjmpheidcofhnaaDoor.GH

section
variable {L : GHeap} {g : Gram} {sg : Sl}

theorem says1_ro {t1 : Addr} {s : Sym} (h : L.reads t1 0 [.int .i64 g.terms, .int .i64 g.nons, .int .i64 g.start, .slice sg.a sg.n sg.c]) : RO PP parllaw2_FirstSays_1.id [.agg #[.bool s.term, .int .i64 s.n], .pointer (some t1)] L (.bool (decide (¬ SymOk g.terms g.nons s))) := by
  apply parllaw2_FirstSays_1.go
  refine ⟨_, _, _, sg, h, KnownS_ro.use ⟨_, rfl, ?_, rfl⟩⟩
  congr 1
  by_cases hk : SymOk g.terms g.nons s <;> simp [hk]

theorem says2_ro {t1 : Addr} {sn : Sl} {null : List Bool} (hm : L.mem t1 = some (.slice sn.a sn.n sn.c)) (hn : IsSl rB L sn null) {s : Sym} (hs : s.term = false → 0 ≤ s.n ∧ s.n < null.length) :
    RO PP parllaw2_FirstSays_2.id [.agg #[.bool s.term, .int .i64 s.n], .pointer (some t1)] L (.bool (!emp null s)) := by
  apply parllaw2_FirstSays_2.go
  refine bcI (fun ht => ⟨by unfold emp; rw [ht]; rfl, rfl⟩) fun ht => ?_
  obtain ⟨h0, h1⟩ := hs ht
  have hlt : s.n.toNat < null.length := by omega
  refine ⟨sn, hm, hn.getI h0 (List.getElem?_eq_getElem hlt) fun a cs hK hc => ?_⟩
  obtain rfl := hK
  exact ⟨_, reads_one hc, by unfold emp; rw [ht, getB_get hlt]; rfl, rfl⟩

theorem any_not {null : List Bool} (l : List Sym) : (l.any fun s => !emp null s) = !l.all (emp null) := by
  rw [List.not_all_eq_any_not]

theorem FirstSays_spec {sl : Sl} {l : List Sym} (hs : IsSl rRule L sg g.rules) (hl : IsSl rSym L sl l) (hb : l.length ≤ 1048576) : ACalls PP parllaw2_FirstSays.id [gramV g sg, .slice sl.a sl.n sl.c] L fun v L' => v = .bool true ∧ Le L L' := by
  apply parllaw2_FirstSays.go
  intro b2 hu2
  simp only [inL]
  have le2 := Le.alloc hu2 [.int .i64 g.terms, .int .i64 g.nons, .int .i64 g.start, .slice sg.a sg.n sg.c] 4
  have k2 : (L.alloc b2 [.int .i64 g.terms, .int .i64 g.nons, .int .i64 g.start, .slice sg.a sg.n sg.c] 4).reads ⟨b2, 0, none⟩ 0 [.int .i64 g.terms, .int .i64 g.nons, .int .i64 g.start, .slice sg.a sg.n sg.c] := alloc_reads
  generalize L.alloc b2 [.int .i64 g.terms, .int .i64 g.nons, .int .i64 g.start, .slice sg.a sg.n sg.c] 4 = L0 at *
  refine simple_spec.mono ?_
  rintro v L1 ⟨hle1, s1, rfl, hs1⟩
  refine ⟨_, _, _, s1, rfl, (Null_spec simG_valid hs1).mono ?_⟩
  rintro v L2 ⟨hle2, s2, out0, rfl, hs2, hsp0⟩
  obtain rfl := simG_lens hsp0
  refine ⟨s2, 0, rfl, bcNE (fun h => absurd rfl h) fun _ => fun b28 hu28 => ?_⟩
  have le28 := Le.alloc hu28 [.bool true] 1
  have k28 : IsSl rB (L2.alloc b28 [.bool true] 1) ⟨some ⟨b28, 0, none⟩, 1, 1⟩ [true] := IsSl.of_cells (Cells.cons (R := rB) (c := [.bool true]) rfl .nil) rfl (Nat.le_refl _) alloc_reads
  have h03 := ((le2.trans hle1).trans hle2).trans le28
  have l03 := (hle1.trans hle2).trans le28
  have hs2' := hs2.mono le28.toLeM
  generalize L2.alloc b28 [.bool true] 1 = L3 at *
  refine (EqualBool_ro hs2' k28 (by simp)).use ⟨_, rfl, bcN (bcT (by simp) ?_)⟩
  have hs3 := hs.mono h03.toLeM
  refine ⟨_, _, _, sg, l03.toLeM.reads k2, ?_⟩
  by_cases hc : chk g = 0
  · have hv := chk_zero.1 hc
    have hnn := hv.nons
    have ht := hv.terms
    refine (Null_spec hv hs3).mono ?_
    rintro v L4 ⟨hle4, sa, lens, rfl, ha, hsp⟩
    have h04 := h03.trans hle4
    have l04 := l03.trans hle4
    refine ⟨sa, 0, rfl, _, _, _, sg, l04.toLeM.reads k2, (First_spec hv (hs.mono h04.toLeM)).mono ?_⟩
    rintro v L5 ⟨hle5, sb, rows, rfl, hbr, hfs⟩
    have h05 := h04.trans hle5
    have l05 := l04.trans hle5
    refine ⟨sb, 0, rfl, _, _, _, sg, l05.toLeM.reads k2, (fOf_spec hv hsp (hs.mono h05.toLeM) (hl.mono h05.toLeM) hb).mono ?_⟩
    rintro v L6 ⟨hle6, sc, is_, e, outc, rfl, hoc, hgood, hbad⟩
    have h06 := h05.trans hle6
    have l06 := l05.trans hle6
    refine ⟨sc, is_, e, rfl, _, _, _, sg, l06.toLeM.reads k2, (GramErr_spec (hs.mono h06.toLeM)).mono ?_⟩
    rintro v L7 ⟨rfl, hle7⟩
    have h07 := h06.trans hle7
    have l07 := l06.trans hle7
    refine ⟨_, rfl, bcNE (fun h => absurd hc h) fun _ => ⟨g.nons, by have := l07.toLeM.reads k2; exact this.2.1, ?_⟩⟩
    have ha7 := ha.mono ((hle5.trans hle6).trans hle7).toLeM
    have hb7 := hbr.mono (hle6.trans hle7).toLeM
    have hc7 := hoc.mono hle7.toLeM
    have hs7 := hs.mono h07.toLeM
    have hl7 := hl.mono h07.toLeM
    have k7 := l07.toLeM.reads k2
    clear ha hbr hoc hs2 hs2' k28 hs1
    have key : ∀ n, n ≤ g.nons.toNat → ∀ (L8 : GHeap) (sr : Sl) (rs : List (List Bool)), Le L7 L8 → Own L7 (rS rB) L8 sr rs → rs.length = n → (∀ (k : Nat) (x : List Bool), rs[k]? = some x → FstL g [⟨false, (k : Int)⟩] x) →
        parllaw2_FirstSays.c12 (fun v L' => v = .bool true ∧ Le L L') sl ⟨b2, 0, none⟩ sa 0 sb 0 sc is_ e sr g.nons ((n : Nat) : Int) L8 := by
      refine down ?_ ?_
      · intro L8 sr rs hle8 ho hrl hrs
        have h08 := h07.trans hle8
        apply parllaw2_FirstSays.go12
        refine bcD (fun h => absurd h (by omega)) fun _ => ⟨_, _, _, sg, hle8.toLeM.reads k7, (Nulls_spec hv hsp (hs7.mono hle8.toLeM)).mono ?_⟩
        rintro v L9 ⟨hle9, sn, rfl, hn⟩
        refine ⟨sn, rfl, fun b17 hu17 => ?_⟩
        obtain ⟨c1, c2, c3, _⟩ := cell_new hu17 (.slice none 0 0) (.slice sn.a sn.n sn.c)
        refine ⟨c1, ?_⟩
        have hn' := hn.mono c3.toLeM
        have h710 := (hle8.trans hle9).trans c3
        have h010 := h07.trans h710
        have hsr := ho.sl.mono (hle9.trans c3).toLeM
        generalize (L9.alloc b17 [.slice none 0 0] 1).sets ⟨b17, 0, none⟩ 0 [.slice sn.a sn.n sn.c] = L10 at *
        refine inLI (bcNE (fun h => absurd rfl h) fun _ => bcNE (fun h => absurd rfl h) fun _ => ⟨sn, c2, ?_⟩)
        have hll := hsp.len
        refine (EqualBool_ro (ha7.mono h710.toLeM) hn' (by simp; omega)).use ⟨_, rfl, bcN (bcT (by simp) ?_)⟩
        have hrows : rows = rs := by
          have hfl := hfs.len
          refine List.ext_getElem (by omega) fun i hi hi' => ?_
          have h2 := hrs i _ (List.getElem?_eq_getElem hi')
          refine FstL.one (g := g) (l := [⟨false, (i : Int)⟩]) ⟨hfs.row _ (List.getElem_mem hi), fun t htl => ?_⟩ h2
          have h3 := hfs.iff_ i t (by omega) htl
          have e3 : cellB rows i t = rows[i].getD t false := by
            unfold cellB; simp only [Int.toNat_natCast]
            rw [List.getD_eq_getElem?_getD (l := rows), List.getElem?_eq_getElem hi]; rfl
          rw [e3] at h3; exact h3
        refine (sameRows_ro (hb7.mono h710.toLeM) hsr (by have := hfs.len; omega) fun r hr => by have := hfs.row r hr; omega).use ⟨_, rfl, bcN (bcT (by simp [hrows]) ?_)⟩
        refine (ContainsFuncSym_ro (cap := [.pointer (some ⟨b2, 0, none⟩)]) (p := fun s => decide (¬ SymOk g.terms g.nons s)) (hl7.mono h710.toLeM) hb fun x hx => says1_ro (sg := sg) (h710.toLeM.reads k7)).use ⟨_, rfl, bcI (fun hany => ?_) fun hany => ?_⟩
        · have hno : ¬ ∀ s ∈ l, SymOk g.terms g.nons s := by
            obtain ⟨s, h1, h2⟩ := List.any_eq_true.1 hany
            exact fun hh => of_decide_eq_true h2 (hh s h1)
          obtain ⟨b1, b2', b3⟩ := hbad hno
          have hcn := hc7.n
          refine bcE (fun _ => bcE (fun _ => ⟨by rw [b2']; rfl, h010⟩) fun h => absurd (by rw [hcn, b3]; rfl) h) fun h => absurd b1 h
        · have hall : ∀ s ∈ l, SymOk g.terms g.nons s := fun s hs' => by
            refine Classical.byContradiction fun hh => ?_
            rw [List.any_eq_true.2 ⟨s, hs', decide_eq_true hh⟩] at hany; cases hany
          obtain ⟨b1, b2', b3⟩ := hgood hall
          refine (ContainsFuncSym_ro (cap := [.pointer (some ⟨b17, 0, none⟩)]) (p := fun s => !emp (lens.map fun k => k == 0) s) (hl7.mono h710.toLeM) hb fun x hx => says2_ro c2 hn' fun hxt => ?_).use ⟨_, rfl, bcE (fun _ => ?_) fun h => absurd b1 h⟩
          · have h := hall x hx
            have := h.2.2 hxt
            exact ⟨h.1, by simp; omega⟩
          refine bcE (fun _ => ?_) fun h => absurd (by rw [b2', any_not, Bool.not_not]) h
          refine ⟨_, _, _, sg, h710.toLeM.reads k7, (FirstOf_spec hv hsp (hs7.mono h710.toLeM) (hl7.mono h710.toLeM) hall hb).mono ?_⟩
          rintro v L11 ⟨hle11, sx, _, outx, rfl, hpx, _, hfx⟩
          obtain rfl := hfx.one b3
          have := hfx.len
          exact ⟨sx, rfl, (EqualBool_ro (hc7.mono (h710.trans hle11).toLeM) hpx.isBool (by omega)).use ⟨_, rfl, by simp, h010.trans hle11⟩⟩
      · intro n hn ih L8 sr rs hle8 ho hrl hrs
        apply parllaw2_FirstSays.go12
        refine bcD (fun _ => ⟨_, _, _, sg, hle8.toLeM.reads k7, fun b90 hu90 => ?_⟩) fun h => absurd (by omega) h
        have le90 := Le.alloc hu90 [.bool false, .int .i64 ((n : Nat) : Int)] 2
        have k90 : IsSl rSym (L8.alloc b90 [.bool false, .int .i64 ((n : Nat) : Int)] 2) ⟨some ⟨b90, 0, none⟩, 1, 1⟩ [⟨false, ((n : Nat) : Int)⟩] := IsSl.of_cells (Cells.cons (R := rSym) (c := [.bool false, .int .i64 ((n : Nat) : Int)]) rfl .nil) rfl (Nat.le_refl _) alloc_reads
        have h79 := hle8.trans le90
        have ho9 := ho.mono le90
        refine inLI ?_
        generalize L8.alloc b90 [.bool false, .int .i64 ((n : Nat) : Int)] 2 = L9 at *
        refine (FirstOf_spec (l := [⟨false, ((n : Nat) : Int)⟩]) (sl := ⟨some ⟨b90, 0, none⟩, 1, 1⟩) hv hsp (hs7.mono h79.toLeM) k90 (fun s hs' => by rw [List.mem_singleton] at hs'; subst hs'; exact ⟨by simp only; omega, fun h => (by cases h), fun _ => by simp only; omega⟩) (by simp)).mono ?_
        rintro v L10 ⟨hle10, sx, _, outx, rfl, hpx, _, hfx⟩
        refine ⟨sx, rfl, ?_⟩
        refine Own.append (R := rS rB) (bytes := 24) (m := 1) (ys := [outx]) (ho9.mono hle10) (h79.trans hle10) (Cells.cons (R := rS rB) (c := [.slice sx.a sx.n sx.c]) ⟨sx, rfl, hpx.isBool⟩ .nil) rfl (.inl (by omega)) fun sr' L11 g1 g2 g3 _ _ => ?_
        rw [add_one (by omega)]
        refine ih L11 sr' _ g1 g3 (by simp; omega) fun k x hx => ?_
        by_cases hk : k < rs.length
        · rw [List.getElem?_append_left hk] at hx; exact hrs k x hx
        · rw [List.getElem?_append_right (by omega)] at hx
          have hk0 : k - rs.length = 0 := by
            cases h : k - rs.length with
            | zero => rfl
            | succ m => rw [h] at hx; simp at hx
          rw [hk0] at hx; simp at hx; subst hx
          have : k = n := by omega
          subst this; exact hfx
    exact key 0 (Nat.zero_le _) L7 ⟨none, 0, 0⟩ [] (.refl _) (.nil _ _ _) rfl (fun k x h => by simp at h)
  · refine (Null_bad hs3 hc).use ⟨⟨none, 0, 0⟩, _, rfl, _, _, _, sg, l03.toLeM.reads k2, (First_bad hs3 hc).use ⟨⟨none, 0, 0⟩, _, rfl, _, _, _, sg, l03.toLeM.reads k2, (fOf_bad hs3 hc).use ⟨⟨none, 0, 0⟩, _, _, rfl, _, _, _, sg, l03.toLeM.reads k2, (GramErr_spec hs3).mono ?_⟩⟩⟩
    rintro v L4 ⟨rfl, hle4⟩
    refine ⟨_, rfl, bcNE (fun _ => bcE (fun _ => bcE (fun _ => bcE (fun _ => bcE (fun _ => ⟨rfl, h03.trans hle4⟩) fun h => absurd rfl h) fun h => absurd rfl h) fun h => absurd rfl h) fun h => absurd rfl h) fun h => absurd h hc⟩
end
end Go.Proofs.YtjmpheidcofhnaaDoor
