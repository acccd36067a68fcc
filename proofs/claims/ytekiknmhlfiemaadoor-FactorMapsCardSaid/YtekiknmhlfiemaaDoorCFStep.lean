/- parlref2.factorStep: the reference's tree through one step of factoring. -/
import Derived.Test.YtekiknmhlfiemaaDoorVAll1
import Derived.Test.YtekiknmhlfiemaaDoorCFactored
import Derived.Test.YtekiknmhlfiemaaDoorCFacLoops
import Derived.Test.YtekiknmhlfiemaaDoorCSameR
import Derived.Test.YtekiknmhlfiemaaDoorCRuleF
set_option linter.all false
namespace Go.Proofs.YtekiknmhlfiemaaDoor
open Go Go.Proofs.YtekiknmhlfiemaaDoor.GH

theorem find_spec {h : Gram} {sh sq : Sl} {L : GHeap} {b6 : Nat} {q : Rule} {j : Nat} (hv : Valid h) (hq : h.rules[j]? = some q) (hh : IsSl rRule L sh h.rules) (hm : L.mem (Addr.add ⟨b6, 0, none⟩ 3) = some (.slice sh.a sh.n sh.c)) (hsq : IsSl rSym L sq q.right) :
    ACalls PP parlref2_factorStep_1.id [.agg #[.int .i64 q.left, .slice sq.a sq.n sq.c], .pointer (some ⟨b6, 0, none⟩)] L fun v L' => Le L L' ∧ v = .int .i64 ((j : Nat) : Int) := by
  apply parlref2_factorStep_1.go
  intro b2 hu2
  refine inLI ?_
  have le2 := Le.alloc hu2 [.int .i64 q.left, .slice sq.a sq.n sq.c] 2
  have hrd : (L.alloc b2 [.int .i64 q.left, .slice sq.a sq.n sq.c] 2).reads ⟨b2, 0, none⟩ 0 [.int .i64 q.left, .slice sq.a sq.n sq.c] := alloc_reads
  generalize L.alloc b2 [.int .i64 q.left, .slice sq.a sq.n sq.c] 2 = L1 at le2 hrd ⊢
  have hjl := (List.getElem?_eq_some_iff.1 hq).1
  have hjq := (List.getElem?_eq_some_iff.1 hq).2
  have hmany := hv.many
  refine ⟨sh, le2.mem _ _ hm, ?_⟩
  refine (IndexFuncRule_at (f := parlref2_factorStep_1_1.id) (cap := [.pointer (some ⟨b2, 0, none⟩)]) (p := fun r => decide (r = q)) (hh.mono le2.toLeM) (by omega) (fun x hx sr hsr => ?_) hjl (decide_eq_true hjq) fun k hk => ?_).use ⟨_, rfl, le2, rfl⟩
  · apply parlref2_factorStep_1_1.go
    have := (hv.ok x hx).2
    exact ⟨q.left, sq, hrd, (SameRule_ro (a := x) (b := q) hsr (hsq.mono le2.toLeM) (by omega)).use ⟨_, rfl, rfl, rfl⟩⟩
  · refine decide_eq_false fun e => ?_
    have hk' : k < h.rules.length := by omega
    have : k = j := (List.getElem?_inj hk' hv.nodup).1 (by rw [hq, List.getElem?_eq_getElem hk', e])
    omega

section
variable {g h : Gram} {st : Step} {n : Int} {x : Sym} {p : List Sym}

theorem fstep_spec (D : Done g h st n p) (hv : Valid g) (hv' : Valid h) (hgr : st.group = bgnF g n x) (hsz : st.size = sizeL g ((bgnF g n x).headD 0) (bgnF g n x) 4) : ∀ (t : Tree) (y : Sym) {L : GHeap} {s sg sh : Sl}, WT g y t → IsSl rRule L sg g.rules → IsSl rRule L sh h.rules → IsSl rTree L s t.kids → t.nodes ≤ 1048576 →
    ACalls PP parlref2_factorStep.id [gramV g sg, gramV h sh, .int .i64 n, .agg #[.bool x.term, .int .i64 x.n], treeV t s] L (TrPost L (thT st t)) := by
  refine Tree.ind fun r tm ks ih => ?_
  intro y L s sg sh hw hsg hsh hs hn
  have hs : IsSl rTree L s ks := hs
  have hpl : sizeL g ((bgnF g n x).headD 0) (bgnF g n x) 4 = (p.length : Int) := hsz ▸ D.size
  obtain ⟨hz, hgl, hml⟩ := D.bounds hv hv'
  have hmany := hv.many
  simp only [Tree.nodes] at hn
  have hkl := kids_le ks
  have hsn := hs.n
  simp only [WT] at hw
  apply parlref2_factorStep.go
  intro b6 hu6
  refine inLI ?_
  have le6 := Le.alloc hu6 [.int .i64 h.terms, .int .i64 h.nons, .int .i64 h.start, .slice sh.a sh.n sh.c] 4
  have hrd : (L.alloc b6 [.int .i64 h.terms, .int .i64 h.nons, .int .i64 h.start, .slice sh.a sh.n sh.c] 4).reads ⟨b6, 0, none⟩ 0 [.int .i64 h.terms, .int .i64 h.nons, .int .i64 h.start, .slice sh.a sh.n sh.c] := alloc_reads
  have hm3 : (L.alloc b6 [.int .i64 h.terms, .int .i64 h.nons, .int .i64 h.start, .slice sh.a sh.n sh.c] 4).mem (Addr.add ⟨b6, 0, none⟩ 3) = some (.slice sh.a sh.n sh.c) := hrd.2.2.2.1
  generalize L.alloc b6 [.int .i64 h.terms, .int .i64 h.nons, .int .i64 h.start, .slice sh.a sh.n sh.c] 4 = L1 at le6 hrd hm3 ⊢
  rcases hw with ⟨h1, h2, h3, h4⟩ | ⟨h1, h0, h2, rl, h3, h4, h5⟩
  · refine bcD (fun _ => ?_) fun h => absurd (show r < 0 by omega) h
    rw [thT_leaf (by omega)]
    exact ⟨le6, s, rfl, hs.mono le6.toLeM⟩
  subst h0
  refine bcD (fun h => absurd (show r < 0 from h) (by omega)) fun _ => ?_
  obtain ⟨i, rfl⟩ : ∃ i : Nat, r = (i : Int) := ⟨r.toNat, by omega⟩
  rw [Int.toNat_natCast] at h3
  refine (hsg.mono le6.toLeM).get h3 fun a cs hK hc => ?_
  obtain ⟨sr, rfl, hsr⟩ := hK
  refine ⟨_, sr, hc, ?_⟩
  have hrm := List.mem_of_getElem? h3
  have hr4 := (hv.ok _ hrm).2
  have key : ∀ j, j ≤ ks.length → ∀ (L2 : GHeap) (so : Sl), Le L1 L2 → Own L1 rTree L2 so ((ks.take j).map (thT st)) →
      parlref2_factorStep.c6 (TrPost L (thT st (.mk (i : Int) 0 ks))) n ⟨b6, 0, none⟩ so s ((s.n : Nat) : Int) ((j : Nat) : Int) g.terms g.nons g.start sg x.term x.n (i : Int) 0 s 0 0 ⟨none, 0, 0⟩ rl.left sr L2 := by
    refine down ?_ ?_
    · intro L2 so hle ho
      rw [List.take_length] at ho
      have h02 := le6.trans hle
      have hkm : (ks.map (thT st)).length = ks.length := List.length_map ..
      have hon := ho.sl.n
      have hsrn := hsr.n
      have hsrc := hsr.c
      apply parlref2_factorStep.go6
      refine bcD (fun h => absurd h (by omega)) fun _ => ?_
      refine (Begin_spec hv (hsg.mono h02.toLeM)).mono ?_
      rintro v L3 ⟨hle3, sl, rfl, hl⟩
      have h03 := h02.trans hle3
      have h13 := hle.trans hle3
      refine ⟨sl, rfl, (Contains_ro hl (by rw [← hgr]; omega)).use ⟨_, rfl, bcN (bcI (fun hin => ?_) fun hin => ?_)⟩⟩
      · -- a rule of the group
        have hig : ((i : Nat) : Int) ∈ bgnF g n x := of_decide_eq_true hin
        have hne : bgnF g n x ≠ [] := List.ne_nil_of_mem hig
        rw [← hgr] at hig
        obtain ⟨q, r', u, hq, hr', hl', hu, hmv, hlow⟩ := D.grp_at hig
        rw [h3] at hr'; cases hr'
        have hrest := D.rest.1
        obtain ⟨f, e1, e2, e3⟩ := D.first
        have hwl := h5.length
        have hul : rl.right.length = p.length + u.length := by rw [hu, List.length_append]
        refine (Shared_ro hv (hsg.mono h03.toLeM) hl hne (fun k hk => ?_) (by rw [← hgr]; omega)).use ⟨_, rfl, ?_⟩
        · obtain ⟨j', r', a1, _, _, a4⟩ := mem_bgnF.1 hk
          exact ⟨j', r', a1, a4⟩
        rw [hpl, Int.toNat_natCast]
        refine ⟨⟨by omega, by omega⟩, ⟨by omega, by omega⟩, both ?_⟩
        have hdr := (hsr.mono h13.toLeM).drop (l := p.length) (by omega)
        rw [hu, List.drop_left] at hdr
        refine (find_spec (q := ⟨g.nons, u⟩) (sq := ⟨subA sr.a sr.c p.length 2, sr.n - p.length, sr.c - p.length⟩) hv' hlow (hsh.mono h03.toLeM) (h13.mem _ _ hm3) hdr).mono ?_
        rintro v L4 ⟨hle4, rfl⟩
        have h04 := h03.trans hle4
        have h14 := h13.trans hle4
        refine ⟨_, rfl, ?_⟩
        apply parlref2_factorStep.go16
        unfold parlref2_factorStep.t16
        rw [Int.toNat_natCast]
        refine ⟨⟨by omega, by omega⟩, both ?_⟩
        refine (CloneSym_spec ((hsr.mono h14.toLeM).take (i := p.length) (by omega)) (by rw [List.length_take]; omega)).mono ?_
        rintro v L5 ⟨s5, rfl, hle5, ho5⟩
        refine ⟨s5, rfl, ?_⟩
        refine Own.append (R := rSym) (bytes := 16) (m := 1) (ys := [⟨false, g.nons⟩]) (ho5.back h14.toLeM) (h14.trans hle5) (Cells.cons (c := [.bool false, .int .i64 g.nons]) rfl .nil) rfl (.inl (by rw [List.length_take]; omega)) fun s6 L6 a1 a2 a3 _ _ => ?_
        have e5 : rl.right.take p.length ++ [⟨false, g.nons⟩] = p ++ [⟨false, g.nons⟩] := by rw [hu, List.take_left]
        have hs6 := a3.sl
        rw [e5] at hs6
        refine (find_spec (q := ⟨n, p ++ [⟨false, g.nons⟩]⟩) hv' e3 (hsh.mono (le6.trans a1).toLeM) (a1.mem _ _ hm3) hs6).mono ?_
        rintro v L7 ⟨hle7, rfl⟩
        have h17 := a1.trans hle7
        have m27 : LeM L2 L7 := (((hle3.trans hle4).trans hle5).toLeM.trans a2).trans hle7.toLeM
        refine ⟨_, rfl, ?_⟩
        apply parlref2_factorStep.go17
        unfold parlref2_factorStep.t17
        have hoc := ho.sl.c
        rw [Int.toNat_natCast]
        refine ⟨⟨by omega, by omega⟩, both ?_⟩
        refine (CloneT_spec ((ho.sl.mono m27).take (i := p.length) (by omega)) (by rw [List.length_take]; omega)).mono ?_
        rintro v L8 ⟨s8, rfl, hle8, ho8⟩
        refine ⟨s8, rfl, ?_⟩
        have hlowS := (ho.sl.mono m27).drop (l := p.length) (by omega)
        have emv : ((st.rest.toNat + q : Nat) : Int) = mvd st i := by rw [hmv]; omega
        rw [emv]
        refine Own.append (R := rTree) (bytes := 40) (m := 1) (ys := [.mk (mvd st i) 0 ((ks.map (thT st)).drop p.length)]) (ho8.back h17.toLeM) (h17.trans hle8) (Cells.cons (c := [.int .i64 (mvd st i), .int .i64 0, .slice (subA so.a so.c p.length 3) (so.n - p.length) (so.c - p.length)]) (TK.mk (s := ⟨subA so.a so.c p.length 3, so.n - p.length, so.c - p.length⟩) (hlowS.mono hle8.toLeM)) .nil) rfl (.inl (by rw [List.length_take]; omega)) fun s9 L9 g1 _ g3 _ _ => ?_
        rw [thT_in (by omega) hig, e1, D.sz]
        exact ⟨le6.trans g1, s9, rfl, g3.sl⟩
      · -- another rule
        have hig : ((i : Nat) : Int) ∉ st.group := by rw [hgr]; exact of_decide_eq_false hin
        obtain ⟨j, hj1, hj2, _, _⟩ := D.other i rl h3 hig
        refine (find_spec (q := rl) (sq := sr) hv' hj2 (hsh.mono h03.toLeM) (h13.mem _ _ hm3) (hsr.mono h13.toLeM)).mono ?_
        rintro v L4 ⟨hle4, rfl⟩
        refine ⟨_, rfl, ?_⟩
        rw [thT_out (by omega) hig, D.mvd_at hj1]
        exact ⟨h03.trans hle4, so, rfl, ho.sl.mono (hle3.trans hle4).toLeM⟩
    · intro j hj ihj L2 so hle ho
      rw [List.take_succ_eq_append_getElem hj, List.map_append] at ihj
      have h02 := le6.trans hle
      have hnk := nodes_mem (List.getElem_mem hj)
      obtain ⟨y', _, hwk⟩ := h5.get j _ (List.getElem?_eq_getElem hj)
      apply parlref2_factorStep.go6
      refine bcD (fun _ => ?_) fun h => absurd (by omega) h
      refine (hs.mono h02.toLeM).get (List.getElem?_eq_getElem hj) fun a cs hK hc => ?_
      obtain ⟨sk, rfl, hsk⟩ := TK.open hK
      refine ⟨_, _, sk, hc, _, _, _, sh, hle.toLeM.reads hrd, (ih _ (List.getElem_mem hj) y' hwk (hsg.mono h02.toLeM) (hsh.mono h02.toLeM) hsk (by omega)).mono ?_⟩
      rintro v L3 ⟨hle3, sb, rfl, hsb⟩
      refine ⟨_, _, sb, rfl, ?_⟩
      refine Own.append (R := rTree) (bytes := 40) (m := 1) (ys := [thT st ks[j]]) (ho.mono hle3) (hle.trans hle3) (Cells.cons (c := [.int .i64 (thT st ks[j]).rule, .int .i64 (thT st ks[j]).term, .slice sb.a sb.n sb.c]) (cell_tree hsb) .nil) rfl (.inl (by simp; omega)) fun s' L4 g1 _ g3 _ _ => ?_
      rw [add_one (by omega)]
      exact ihj L4 s' g1 g3
  exact key 0 (Nat.zero_le _) L1 ⟨none, 0, 0⟩ (.refl _) (.nil _ _ _)
end
end Go.Proofs.YtekiknmhlfiemaaDoor
