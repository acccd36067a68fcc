/- The law FirstFollows: what follows each part of a tree. -/
import Derived.Test.YtepahncakbadlaaVFollows
import Derived.Test.YtepahncakbadlaaCPredict
import Derived.Test.YtepahncakbadlaaCFirstWords
import Derived.Test.YtepahncakbadlaaCTreesStay
set_option linter.all false
namespace Go.Proofs.Ytepahncakbadlaa
open Go Go.Proofs.Ytepahncakbadlaa.GH

theorem WTs.drop {g : Gram} : ∀ {ys : List Sym} {ks : List Tree} (i : Nat), WTs g ys ks → WTs g (ys.drop i) (ks.drop i)
  | _, _, 0, h => h
  | [], [], i + 1, _ => by simp [WTs]
  | y :: ys, k :: ks, i + 1, h => by
    simp only [WTs] at h
    simp only [List.drop_succ_cons]
    exact WTs.drop i h.2
  | [], _ :: _, _ + 1, h => by simp [WTs] at h
  | _ :: _, [], _ + 1, h => by simp [WTs] at h

/-- What is known where a part of a tree begins: what comes after it. -/
def Ctx (g : Gram) (fol : List (List Bool)) (y : Sym) (rest : List Int) : Prop := y.term = false → Rch g (fun _ => true) y.n ∧ cellB fol y.n.toNat (rest.headD 0).toNat = true

theorem Ctx.kid {g : Gram} {null : List Bool} {first fol : List (List Bool)} (hv : Valid g) (hnu : NullSpec g null) (hfs : FirstSpec g first) (hf : FolSpec g null first fol) {rl : Rule} {ks : List Tree} {rest : List Int} (hr : rl ∈ g.rules) (h : Rch g (fun _ => true) rl.left ∧ cellB fol rl.left.toNat (rest.headD 0).toNat = true)
    (hw : WTs g rl.right ks) {i : Nat} {y : Sym} (hy : rl.right[i]? = some y) : Ctx g fol y (yields (ks.drop (i + 1)) ++ rest) := by
  intro ht
  obtain ⟨yt, yn⟩ := y
  simp only at ht; subst ht
  have hok := (hv.ok rl hr).1.right
  have ho := hok _ (List.mem_of_getElem? hy)
  have h0 := ho.1
  simp only at h0
  refine ⟨.step hr rfl h.1 (List.mem_of_getElem? hy) rfl, ?_⟩
  have hy' : rl.right[i]? = some ⟨false, ((yn.toNat : Nat) : Int)⟩ := by rw [hy]; congr 2; omega
  obtain ⟨c1, c2⟩ := hf.holds hv hr h.1 hy'
  have hd := WTs.ds _ (WTs.drop (i + 1) hw)
  have hok' : ∀ s ∈ rl.right.drop (i + 1), SymOk g.terms g.nons s := fun s hs => hok s (List.mem_of_mem_drop hs)
  cases hz : yields (ks.drop (i + 1)) with
  | nil =>
    rw [hz] at hd
    exact c2 (begL_empty hnu hok' (ds_empty hd rfl)) _ h.2
  | cons x xs =>
    rw [hz] at hd
    have hx := ds_terms hv hd hok' x (List.mem_cons_self ..)
    refine c1 _ ?_
    show (begL null first (rl.right.drop (i + 1)) (zer g)).1.getD x.toNat false = true
    refine begL_fst hv hnu hfs hok' (by omega) ?_
    rw [Int.toNat_of_nonneg hx.1]
    exact fst_of_ds hd x xs rfl

/-- The next terminal where a rule begins. -/
theorem pred_next {g : Gram} {null : List Bool} {first fol : List (List Bool)} (hv : Valid g) (hnu : NullSpec g null) (hfs : FirstSpec g first) (hf : FolSpec g null first fol) {rl : Rule} {ks : List Tree} {rest : List Int} (hr : rl ∈ g.rules) (h : cellB fol rl.left.toNat (rest.headD 0).toNat = true) (hw : WTs g rl.right ks) :
    (predR g null first fol rl).getD ((yields ks ++ rest).headD 0).toNat false = true := by
  obtain ⟨_, c1, c2⟩ := pred_holds hf hv hr
  have hd := WTs.ds _ hw
  have hok := (hv.ok rl hr).1.right
  cases hz : yields ks with
  | nil =>
    rw [hz] at hd
    exact c2 (begL_empty hnu hok (ds_empty hd rfl)) _ h
  | cons x xs =>
    rw [hz] at hd
    have hx := ds_terms hv hd hok x (List.mem_cons_self ..)
    refine c1 _ ?_
    show (begL null first rl.right (zer g)).1.getD x.toNat false = true
    refine begL_fst hv hnu hfs hok (by omega) ?_
    rw [Int.toNat_of_nonneg hx.1]
    exact fst_of_ds hd x xs rfl

theorem yields_split {ks : List Tree} {i : Nat} (h : i < ks.length) : yields ks = yields (ks.take i) ++ (ks[i].yield ++ yields (ks.drop (i + 1))) := by
  conv => lhs; rw [← List.take_append_drop i ks, List.drop_eq_getElem_cons h]
  rw [yields_append]; rfl

theorem reads_fst {L : GHeap} {a : Addr} {v : Value} {vs : List Value} (h : L.reads a 0 (v :: vs)) : L.mem a = some v := by
  have := h.1
  rwa [add_zero] at this

theorem good_spec {L0 : GHeap} {g : Gram} {t2 t3 t4 t5 t6 : Addr} {sw sg sp sy : Sl} {n1 n2 : List Bool} {f1 f2 fol1 fol2 : List (List Bool)} {w : List Int} (hv : Valid g)
    (m2 : L0.mem t2 = some (.slice sw.a sw.n sw.c)) (m3 : L0.mem (t3.add 3) = some (.slice sg.a sg.n sg.c)) (m4 : L0.mem t4 = some (.slice sp.a sp.n sp.c)) (m5 : L0.mem t5 = some (.slice sy.a sy.n sy.c))
    (m6 : L0.mem t6 = some (.func (.func parlkeep2_FirstFollows_1.id) #[] #[.pointer (some t2), .pointer (some t3), .pointer (some t4), .pointer (some t5), .pointer (some t6)]))
    (hsw : IsSl (rS rB) L0 sw fol1) (hsg : IsSl rRule L0 sg g.rules) (hsp : IsSl (rS rB) L0 sp (g.rules.map (predR g n2 f2 fol2))) (hsy : IsSl rI L0 sy w)
    (a1 : NullSpec g n1) (a2 : FirstSpec g f1) (a3 : FolSpec g n1 f1 fol1) (b1 : NullSpec g n2) (b2 : FirstSpec g f2) (b3 : FolSpec g n2 f2 fol2) (hwt : ∀ x ∈ w, 0 ≤ x ∧ x ≤ g.terms) (hwl : w.length ≤ 1048577) :
    ∀ (t : Tree) (y : Sym) (pre rest : List Int) (L : GHeap) (s : Sl), Le L0 L → IsSl rTree L s t.kids → t.nodes ≤ 1048576 → WT g y t → Ctx g fol1 y rest → Ctx g fol2 y rest → w = pre ++ (t.yield ++ rest) → rest ≠ [] →
      ACalls PP parlkeep2_FirstFollows_1.id [treeV t s, .int .i64 (pre.length : Nat), .pointer (some t2), .pointer (some t3), .pointer (some t4), .pointer (some t5), .pointer (some t6)] L fun v L' => v = .bool true ∧ Le L L' := by
  refine Tree.ind fun r tm ks ih => ?_
  intro y pre rest L s hle hs hn hw hc1 hc2 hww hrest
  have hs : IsSl rTree L s ks := hs
  simp only [Tree.nodes] at hn
  have hkn := kids_le ks
  have hterms := hv.terms
  apply parlkeep2_FirstFollows_1.go
  refine bcD (fun _ => ⟨rfl, .refl _⟩) fun h => ?_
  have h : ¬ r < 0 := h
  have e : (Tree.mk r tm ks).yield = yields ks := by simp only [Tree.yield]; rw [if_neg h]
  simp only [WT] at hw
  rcases hw with ⟨_, h2, _, _⟩ | ⟨h1, _, h2, rl, h3, h4, h5⟩
  · omega
  have hmem := List.mem_of_getElem? h3
  have hl := (hv.ok rl hmem).1.left
  have c1 := hc1 h1
  have c2 := hc2 h1
  rw [← h4] at c1 c2
  rw [e] at hww
  obtain ⟨z, zs, rfl⟩ : ∃ z zs, rest = z :: zs := by cases rest with | nil => exact absurd rfl hrest | cons z zs => exact ⟨z, zs, rfl⟩
  have hz := hwt z (by rw [hww]; simp)
  have hlen : w.length = pre.length + (yields ks).length + 1 + zs.length := by rw [hww]; simp; omega
  obtain ⟨hrow, hrowl⟩ := a3.toFSh.get (n := rl.left.toNat) (by omega)
  refine ⟨sw, hle.mem _ _ m2, sg, hle.mem _ _ m3, ?_⟩
  refine (hsg.mono hle.toLeM).getI h2 h3 fun a cs hK hc => ?_
  obtain ⟨sr, rfl, _⟩ := hK
  refine ⟨rl.left, reads_fst hc, ?_⟩
  refine (hsw.mono hle.toLeM).getI hl.1 hrow fun a' cs' hK' hc' => ?_
  obtain ⟨sa, rfl, hsa⟩ := hK'
  refine ⟨sa, reads_one hc', sp, hle.mem _ _ m4, ?_⟩
  refine (hsp.mono hle.toLeM).getI h2 (x := predR g n2 f2 fol2 rl) (by rw [List.getElem?_map, h3]; rfl) fun a'' cs'' hK'' hc'' => ?_
  obtain ⟨sb, rfl, hsb⟩ := hK''
  have hpl := (pred_holds b3 hv hmem).1
  refine ⟨sb, reads_one hc'', (Yield_spec (.mk r tm ks) hs (by simp only [Tree.nodes]; omega)).mono ?_⟩
  rintro v L1 ⟨hle1, so, rfl, hso⟩
  have hson : so.n = (yields ks).length := by rw [← e]; exact hso.sl.n
  have hle01 := hle.trans hle1
  have hsy1 := hsy.mono hle01.toLeM
  have eend : w64 (((pre.length : Nat) : Int) + ((so.n : Nat) : Int)) = ((pre.length + (yields ks).length : Nat) : Int) := by rw [hson, w64_in (by omega) (by omega)]; omega
  have wend : w[pre.length + (yields ks).length]? = some z := by
    rw [hww, ← List.append_assoc, List.getElem?_append_right (by simp)]; simp
  have wat : w[pre.length]? = some ((yields ks ++ z :: zs).headD 0) := by
    rw [hww, List.getElem?_append_right (Nat.le_refl _), Nat.sub_self]
    cases yields ks with
    | nil => rfl
    | cons x xs => rfl
  have hat := hwt _ (List.mem_of_getElem? wat)
  refine ⟨so, rfl, sy, hle01.mem _ _ m5, ?_⟩
  rw [eend]
  refine bcD (fun h => absurd h (by rw [hsy1.n]; omega)) fun _ => ⟨sy, hle01.mem _ _ m5, ?_⟩
  generalize hwa : (yields ks ++ z :: zs).headD 0 = x at *
  have rdE : ∀ {k : Int → Prop}, k z → ptrK sy.a fun a => (0 ≤ ((pre.length + (yields ks).length : Nat) : Int) ∧ ((pre.length + (yields ks).length : Nat) : Int) < ((sy.n : Nat) : Int)) ∧ ∃ q : Int, L1.mem (Addr.add a (Int.toNat ((pre.length + (yields ks).length : Nat) : Int) * 1)) = some (.int .i64 q) ∧ k q := by
    intro k hk
    refine hsy1.get wend fun a cs hK hc => ?_
    obtain rfl := hK
    exact ⟨z, reads_one hc, hk⟩
  have rdA : ∀ {k : Int → Prop}, k x → ptrK sy.a fun a => (0 ≤ ((pre.length : Nat) : Int) ∧ ((pre.length : Nat) : Int) < ((sy.n : Nat) : Int)) ∧ ∃ q : Int, L1.mem (Addr.add a (Int.toNat ((pre.length : Nat) : Int) * 1)) = some (.int .i64 q) ∧ k q := by
    intro k hk
    refine hsy1.get wat fun a cs hK hc => ?_
    obtain rfl := hK
    exact ⟨x, reads_one hc, hk⟩
  have hsa1 := (hsa.mono hle1.toLeM)
  have hsb1 := (hsb.mono hle1.toLeM)
  have hsan := hsa1.n
  have hsbn := hsb1.n
  refine rdE ⟨sy, hle01.mem _ _ m5, rdA ?_⟩
  have hmax : ¬ (mnx .max z x ≥ mnx .min ((sa.n : Nat) : Int) ((sb.n : Nat) : Int)) := by
    rw [hsan, hsbn, hrowl, hpl]
    unfold mnx
    simp only
    split <;> split <;> omega
  refine bcD (fun h => absurd h hmax) fun _ => ⟨sy, hle01.mem _ _ m5, rdE ?_⟩
  have hzlt : z.toNat < (fol1.getD rl.left.toNat []).length := by omega
  have hxlt : x.toNat < (predR g n2 f2 fol2 rl).length := by omega
  refine hsa1.getI hz.1 (List.getElem?_eq_getElem hzlt) fun a5 cs5 hK5 hc5 => ?_
  obtain rfl := hK5
  have q1 : (fol1.getD rl.left.toNat [])[z.toNat] = true := by
    have := c1.2
    unfold cellB at this
    simp only [Int.toNat_natCast, List.headD_cons] at this
    rw [List.getD_eq_getElem?_getD (i := z.toNat), List.getElem?_eq_getElem hzlt] at this
    exact this
  refine ⟨_, reads_one hc5, bcF (by rw [q1]; rfl) ⟨sy, hle01.mem _ _ m5, rdA ?_⟩⟩
  refine hsb1.getI hat.1 (List.getElem?_eq_getElem hxlt) fun a6 cs6 hK6 hc6 => ?_
  obtain rfl := hK6
  have q2 : (predR g n2 f2 fol2 rl)[x.toNat] = true := by
    have := pred_next hv b1 b2 b3 hmem c2.2 h5
    rw [hwa, List.getD_eq_getElem?_getD, List.getElem?_eq_getElem hxlt] at this
    exact this
  refine ⟨_, reads_one hc6, bcF (by rw [q2]; rfl) ?_⟩
  -- the kids
  have key : ∀ i, i ≤ ks.length → ∀ L2, Le L1 L2 → parlkeep2_FirstFollows_1.c8 (fun v L' => v = Value.bool true ∧ Le L L') ((pre ++ yields (ks.take i)).length : Nat) t6 s ((s.n : Nat) : Int) ((i : Nat) : Int) L2 := by
    refine down ?_ ?_
    · intro L2 hle2
      apply parlkeep2_FirstFollows_1.go8
      exact bcD (fun h => absurd h (by rw [hs.n]; omega)) fun _ => ⟨rfl, hle1.trans hle2⟩
    · intro i hi ihi L2 hle2
      have hs2 := hs.mono (hle1.trans hle2).toLeM
      have hle02 := hle01.trans hle2
      have hk := nodes_mem (List.getElem_mem hi)
      obtain ⟨yk, hyk, wk⟩ := WTs.get h5 i _ (List.getElem?_eq_getElem hi)
      have esp := yields_split hi
      apply parlkeep2_FirstFollows_1.go8
      refine bcD (fun _ => ?_) fun h => absurd (by rw [hs.n]; omega) h
      refine hs2.get (List.getElem?_eq_getElem hi) fun a cs hK hc => ?_
      obtain ⟨sk, rfl, hsk⟩ := TK.open hK
      refine ⟨_, _, _, hc, parlkeep2_FirstFollows_1.id, [.pointer (some t2), .pointer (some t3), .pointer (some t4), .pointer (some t5), .pointer (some t6)], hle02.mem _ _ m6, ?_⟩
      refine (ih _ (List.getElem_mem hi) yk (pre ++ yields (ks.take i)) (yields (ks.drop (i + 1)) ++ z :: zs) L2 sk hle02 hsk (by omega) wk
        (Ctx.kid hv a1 a2 a3 hmem c1 h5 hyk) (Ctx.kid hv b1 b2 b3 hmem c2 h5 hyk) (by rw [hww, esp]; simp) (by simp)).mono ?_
      rintro v L3 ⟨rfl, hle3⟩
      refine ⟨true, rfl, bcF rfl ((Yield_spec ks[i] (hsk.mono hle3.toLeM) (by omega)).mono ?_)⟩
      rintro v L4 ⟨hle4, so4, rfl, hso4⟩
      have h4n := hso4.sl.n
      have hyl := yields_le ks
      have hel : (yields ks).length = (yields (ks.take i)).length + (ks[i].yield.length + (yields (ks.drop (i + 1))).length) := by rw [esp]; simp
      refine ⟨so4, rfl, ?_⟩
      have eat : w64 (((pre ++ yields (ks.take i)).length : Nat) + ((so4.n : Nat) : Int)) = ((pre ++ yields (ks.take (i + 1))).length : Nat) := by
        rw [List.take_succ_eq_append_getElem hi, yields_append, h4n, w64_in (by simp only [List.length_append]; omega) (by simp only [List.length_append]; omega)]
        simp only [List.length_append, yields, List.append_nil]
        omega
      rw [eat, add_one (by omega)]
      exact ihi L4 ((hle2.trans hle3).trans hle4)
  have := key 0 (Nat.zero_le _) L1 (.refl _)
  simpa [yields] using this
end Go.Proofs.Ytepahncakbadlaa
