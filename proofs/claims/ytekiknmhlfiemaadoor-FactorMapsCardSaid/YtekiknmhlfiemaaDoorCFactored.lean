/- parlref2.factored: a grammar with its next group factored. -/
import Derived.Test.YtekiknmhlfiemaaDoorCAlike
import Derived.Test.YtekiknmhlfiemaaDoorCContains
set_option linter.all false
namespace Go.Proofs.YtekiknmhlfiemaaDoor
open Go Go.Proofs.YtekiknmhlfiemaaDoor.GH

/-! ### laws -/
theorem emL_append {st : Step} : ∀ {xs ys : List Rule} {i : Nat}, emL st (xs ++ ys) i = emL st xs i ++ emL st ys (i + xs.length)
  | [], _, _ => by simp [emL]
  | x :: xs, ys, i => by
    simp only [List.cons_append, emL, List.length_cons]
    rw [emL_append, show i + (xs.length + 1) = i + 1 + xs.length by omega, List.append_assoc]

theorem emL_length {st : Step} : ∀ {xs : List Rule} {i : Nat}, (emL st xs i).length ≤ xs.length
  | [], _ => Nat.le_refl _
  | x :: xs, i => by
    have := emL_length (st := st) (xs := xs) (i := i + 1)
    have h : (emit st i x).toList.length ≤ 1 := by cases emit st i x <;> simp
    simp only [emL, List.length_append, List.length_cons]
    omega

theorem emL_succ {st : Step} {rs : List Rule} {i : Nat} (h : i < rs.length) : emL st (rs.take (i + 1)) 0 = emL st (rs.take i) 0 ++ (emit st i rs[i]).toList := by
  rw [List.take_succ_eq_append_getElem h, emL_append]
  simp only [emL, List.append_nil, List.length_take]
  rw [show 0 + min i rs.length = i by omega]

theorem whereI_append {p : Rule → Bool} : ∀ {xs ys : List Rule} {i : Nat}, whereI p i (xs ++ ys) = whereI p i xs ++ whereI p (i + xs.length) ys
  | [], _, _ => by simp [whereI]
  | x :: xs, ys, i => by
    simp only [List.cons_append, whereI, List.length_cons]
    rw [whereI_append, show i + (xs.length + 1) = i + 1 + xs.length by omega]
    split <;> simp

/-- A rule of the group is the group's first where none of the group is before it. -/
theorem idx_first {g : Gram} {n : Int} {x : Sym} {i : Nat} (hi : i < g.rules.length) (hp : begP n x g.rules[i] = true) : idxI (bgnF g n x) (i : Int) = 0 ↔ whereI (begP n x) 0 (g.rules.take i) = [] := by
  have e : bgnF g n x = whereI (begP n x) 0 (g.rules.take i) ++ (i : Int) :: whereI (begP n x) (i + 1) (g.rules.drop (i + 1)) := by
    unfold bgnF
    conv => lhs; rw [← List.take_append_drop i g.rules]
    rw [whereI_append, List.drop_eq_getElem_cons hi, List.length_take, show 0 + min i g.rules.length = i by omega]
    simp only [whereI]
    rw [if_pos hp]
  rw [e]
  cases hw : whereI (begP n x) 0 (g.rules.take i) with
  | nil => simp only [List.nil_append]; rw [idxI_zero]; exact ⟨fun _ => trivial, fun _ => rfl⟩
  | cons y ys =>
    simp only [List.cons_append]
    rw [idxI_zero]
    have hm : y ∈ whereI (begP n x) 0 (g.rules.take i) := by rw [hw]; exact List.mem_cons_self ..
    obtain ⟨j, r, h1, _, h3⟩ := mem_whereI.1 hm
    have := (List.getElem?_eq_some_iff.1 h1).1
    rw [List.length_take] at this
    constructor
    · intro h; omega
    · intro h; cases h

section
variable {L : GHeap} {g : Gram} {sg : Sl}

theorem facDo_eq {st : Step} (hm : st.moved = []) : (facDo g st).1 = ⟨g.terms, g.nons + 1, g.start, emL st g.rules 0 ++ st.group.map fun i => ⟨st.non, (rt g i).drop st.size.toNat⟩⟩ := by
  unfold facDo
  simp only [doM_eq, doL_eq, List.nil_append]

theorem factored_spec {n : Int} {x : Sym} {st : Step} (hv : Valid g) (hs : IsSl rRule L sg g.rules) (hnx : facNext g = some st) (hst : st = ⟨bgnF g n x, sizeL g ((bgnF g n x).headD 0) (bgnF g n x) 4, g.nons, 0, 0, []⟩) :
    ACalls PP parlref2_factored.id [gramV g sg, .int .i64 n, .agg #[.bool x.term, .int .i64 x.n]] L fun v L' => Le L L' ∧ ∃ so : Sl, v = gramV (facDo g st).1 so ∧ IsSl rRule L' so (facDo g st).1.rules := by
  have ht := hv.terms
  have hnn := hv.nons
  have hmany := hv.many
  have hsn := hs.n
  obtain ⟨hok, _, _⟩ := next_ok hnx
  have hne : bgnF g n x ≠ [] := by
    obtain ⟨m, _, _, h3, h4⟩ := nxt_some hnx
    rw [hst] at h4
    have := congrArg Step.group h4
    simp only at this
    rw [this]; exact h3
  rw [facDo_eq (by rw [hst])]
  have hgr : st.group = bgnF g n x := by rw [hst]
  have hsz : st.size = sizeL g ((bgnF g n x).headD 0) (bgnF g n x) 4 := by rw [hst]
  have hsno : st.non = g.nons := by rw [hst]
  have hsz4 : st.size ≤ 4 := by rw [hsz]; exact sizeL_le.1
  have hsz0 := hok.sz
  have hgl : (bgnF g n x).length ≤ g.rules.length := whereI_length
  apply parlref2_factored.go
  refine (Begin_spec hv hs).mono ?_
  rintro v L1 ⟨hle1, sl, rfl, hl⟩
  refine ⟨sl, rfl, (Shared_ro hv (hs.mono hle1.toLeM) hl hne (fun k hk => ?_) (by omega)).use ⟨_, rfl, ?_⟩⟩
  · obtain ⟨j, r, h1, _, _, h4⟩ := mem_bgnF.1 hk
    exact ⟨j, r, h1, h4⟩
  rw [w64_in (by omega) (by omega), ← hsz]
  have hs1 := hs.mono hle1.toLeM
  have key : ∀ i, i ≤ g.rules.length → ∀ (L2 : GHeap) (so sr : Sl), Le L1 L2 → Own L1 rRule L2 so (emL st (g.rules.take i) 0) → Own L1 rRule L2 sr ((whereI (begP n x) 0 (g.rules.take i)).map fun i => ⟨g.nons, (rt g i).drop st.size.toNat⟩) → Sep so sr →
      parlref2_factored.c6 (fun v L' => Le L L' ∧ ∃ so : Sl, v = gramV ⟨g.terms, g.nons + 1, g.start, emL st g.rules 0 ++ st.group.map fun i => ⟨st.non, (rt g i).drop st.size.toNat⟩⟩ so ∧ IsSl rRule L' so (emL st g.rules 0 ++ st.group.map fun i => ⟨st.non, (rt g i).drop st.size.toNat⟩)) n sl st.size sr sg ((sg.n : Nat) : Int) ((i : Nat) : Int) g.terms g.nons g.start sg 0 0 0 ⟨none, 0, 0⟩ g.terms (g.nons + 1) g.start so L2 := by
    refine down ?_ ?_
    · intro L2 so sr hle ho hr _
      rw [List.take_length] at ho hr
      apply parlref2_factored.go6
      refine bcD (fun h => absurd h (by omega)) fun _ => ?_
      obtain ⟨cs, hcs, hrd⟩ := hr.sl.cells
      refine ⟨cs, ⟨hrd, hcs.one⟩, ?_⟩
      have hrn := hr.sl.n
      have h1 := emL_length (st := st) (xs := g.rules) (i := 0)
      have h2 := whereI_length (p := begP n x) (rs := g.rules) (i := 0)
      refine Own.append (R := rRule) (bytes := 32) (m := sr.n) (ys := (whereI (begP n x) 0 g.rules).map fun i => ⟨g.nons, (rt g i).drop st.size.toNat⟩) ho hle hcs hrn.symm (.inl (by rw [hrn, List.length_map]; omega)) fun s3 L3 a1 _ a3 _ _ => ?_
      refine ⟨hle1.trans a1, s3, rfl, ?_⟩
      rw [hgr, hsno]
      exact a3.sl
    · intro i hi ih L2 so sr hle ho hr hsep
      have l1 := emL_length (st := st) (xs := g.rules.take i) (i := 0)
      have l2 := whereI_length (p := begP n x) (rs := g.rules.take i) (i := 0)
      rw [List.length_take] at l1 l2
      rw [emL_succ hi, whereI_succ hi, Nat.zero_add] at ih
      have hir := List.getElem?_eq_getElem hi
      have hrm := List.getElem_mem hi
      have hr4 := (hv.ok _ hrm).2
      have hrt : rt g ((i : Nat) : Int) = g.rules[i].right := rt_get hir
      have hmem : ((i : Nat) : Int) ∈ bgnF g n x ↔ begP n x g.rules[i] = true := by
        rw [mem_bgnF]
        constructor
        · rintro ⟨j, r, h1, h2, h3, h4⟩
          have : j = i := by omega
          subst this
          rw [hir] at h1; cases h1
          exact decide_eq_true ⟨h2, h3⟩
        · intro h
          have h := of_decide_eq_true h
          exact ⟨i, _, hir, h.1, h.2, rfl⟩
      apply parlref2_factored.go6
      refine bcD (fun _ => ?_) fun h => absurd (by omega) h
      refine (hs1.mono hle.toLeM).get hir fun a cs hK hc => ?_
      obtain ⟨s1, rfl, hs1r⟩ := hK
      have hs1n := hs1r.n
      have hs1c := hs1r.c
      refine ⟨_, s1, hc, (Contains_ro (hl.mono hle.toLeM) (by omega)).use ⟨_, rfl, bcN (bcI (fun h => ?_) fun h => ?_)⟩⟩
      · -- a rule of the group
        have hig := of_decide_eq_true h
        have hp := hmem.1 hig
        have hleft : g.rules[i].left = n := (of_decide_eq_true hp).1
        rw [if_pos hp] at ih
        have hszr : st.size ≤ (g.rules[i].right.length : Nat) := by
          obtain ⟨j, r, a1, a2, a3⟩ := hok.mem _ (by rw [hgr]; exact hig)
          have : i = j := by omega
          subst this
          rw [hir] at a1; cases a1
          exact a3
        have hneg : ¬ idxI st.group ((i : Nat) : Int) < 0 := fun h => idxI_mem.1 h (by rw [hgr]; exact hig)
        have hfst := idx_first hi hp
        rw [← hgr] at hfst
        -- the rest of the rule
        have c12 : ∀ (L3 : GHeap) (so' : Sl), Le L1 L3 → Le L2 L3 ∨ LeM L2 L3 → Own L1 rRule L3 so' (emL st (g.rules.take i) 0 ++ (emit st i g.rules[i]).toList) → Own L1 rRule L3 sr ((whereI (begP n x) 0 (g.rules.take i)).map fun i => ⟨g.nons, (rt g i).drop st.size.toNat⟩) → Sep so' sr →
            parlref2_factored.c12 (fun v L' => Le L L' ∧ ∃ so : Sl, v = gramV ⟨g.terms, g.nons + 1, g.start, emL st g.rules 0 ++ st.group.map fun i => ⟨st.non, (rt g i).drop st.size.toNat⟩⟩ so ∧ IsSl rRule L' so (emL st g.rules 0 ++ st.group.map fun i => ⟨st.non, (rt g i).drop st.size.toNat⟩)) n sl st.size sr sg ((sg.n : Nat) : Int) ((i : Nat) : Int) g.terms g.nons g.start sg 0 0 0 ⟨none, 0, 0⟩ g.terms (g.nons + 1) g.start so' g.rules[i].left s1 L3 := by
          intro L3 so' hle3 hm3 ho3 hr3 hsep3
          have hm23 : LeM L2 L3 := hm3.elim Le.toLeM id
          apply parlref2_factored.go12
          refine ⟨⟨by omega, by omega⟩, (CloneSym_spec (s := ⟨subA s1.a s1.c st.size.toNat 2, s1.n - st.size.toNat, s1.c - st.size.toNat⟩) ((hs1r.mono hm23).drop (l := st.size.toNat) (by omega)) (by rw [List.length_drop]; omega)).mono ?_⟩
          rintro v L4 ⟨s', rfl, hle4, ho4⟩
          refine ⟨s', rfl, ?_⟩
          refine Own.append (R := rRule) (bytes := 32) (m := 1) (ys := [⟨g.nons, g.rules[i].right.drop st.size.toNat⟩]) (hr3.mono hle4) (hle3.trans hle4) (Cells.cons (c := [.int .i64 g.nons, .slice s'.a s'.n s'.c]) ⟨s', rfl, ho4.sl⟩ .nil) rfl (.inl (by rw [List.length_map]; omega)) fun sr' L5 a1 _ a3 _ a5 => ?_
          obtain ⟨b1, b2⟩ := a5 rRule so' _ (ho3.mono hle4) hsep3.symm
          apply parlref2_factored.go13
          unfold parlref2_factored.t13
          rw [add_one (by omega)]
          refine ih L5 so' sr' a1 b1 ?_ b2.symm
          rw [List.map_append, List.map_singleton, hrt]
          exact a3
        refine bcE (fun h0 => ?_) fun h0 => ?_
        · have hw : whereI (begP n x) 0 (g.rules.take i) = [] := by
            have := hr.sl.n
            rw [List.length_map] at this
            exact List.eq_nil_of_length_eq_zero (by omega)
          have hz := hfst.2 hw
          have hem : emit st i g.rules[i] = some ⟨n, g.rules[i].right.take st.size.toNat ++ [⟨false, g.nons⟩]⟩ := by
            unfold emit; rw [if_neg hneg, if_pos hz, hleft, hsno]
          rw [hem] at c12
          refine ⟨⟨by omega, by omega⟩, both ?_⟩
          refine (CloneSym_spec (hs1r.take (i := st.size.toNat) (by omega)) (by rw [List.length_take]; omega)).mono ?_
          rintro v L3 ⟨s', rfl, hle3, ho3⟩
          refine ⟨s', rfl, ?_⟩
          have hsa : Sep s' so := ho3.sep ho
          have hsb : Sep s' sr := ho3.sep hr
          refine Own.append (R := rSym) (bytes := 16) (m := 1) (ys := [⟨false, g.nons⟩]) (ho3.back hle.toLeM) (hle.trans hle3) (Cells.cons (c := [.bool false, .int .i64 g.nons]) rfl .nil) rfl (.inl (by simp; omega)) fun s2 L4 a1 a2 a3 _ a5 => ?_
          obtain ⟨b1, _⟩ := a5 rRule so _ (ho.mono hle3) hsa
          obtain ⟨b3, _⟩ := a5 rRule sr _ (hr.mono hle3) hsb
          refine Own.append (R := rRule) (bytes := 32) (m := 1) (ys := [⟨n, g.rules[i].right.take st.size.toNat ++ [⟨false, g.nons⟩]⟩]) b1 a1 (Cells.cons (c := [.int .i64 n, .slice s2.a s2.n s2.c]) ⟨s2, rfl, a3.sl⟩ .nil) rfl (.inl (by omega)) fun so' L5 d1 d2 d3 _ d5 => ?_
          obtain ⟨b5, b6⟩ := d5 rRule sr _ b3 hsep
          exact c12 L5 so' d1 (.inr ((hle3.toLeM.trans a2).trans d2)) d3 b5 b6
        · have hw : whereI (begP n x) 0 (g.rules.take i) ≠ [] := fun e => h0 (by
            have := hr.sl.n
            rw [e] at this
            simp at this
            omega)
          have hem : emit st i g.rules[i] = none := by
            unfold emit; rw [if_neg hneg, if_neg fun h => hw (hfst.1 h)]
          rw [hem] at c12
          refine c12 L2 so hle (.inl (.refl _)) ?_ hr hsep
          simpa using ho
      · -- another rule
        have hig : ¬ ((i : Nat) : Int) ∈ bgnF g n x := of_decide_eq_false h
        have hp : ¬ begP n x g.rules[i] = true := fun h => hig (hmem.2 h)
        rw [if_neg hp, List.append_nil] at ih
        have hem : emit st i g.rules[i] = some g.rules[i] := by
          unfold emit; rw [if_pos (idxI_mem.2 (by rw [hgr]; exact hig))]
        rw [hem] at ih
        refine Own.append (R := rRule) (bytes := 32) (m := 1) (ys := [g.rules[i]]) ho hle (Cells.cons (c := [.int .i64 g.rules[i].left, .slice s1.a s1.n s1.c]) ⟨s1, rfl, hs1r⟩ .nil) rfl (.inl (by omega)) fun so' L3 a1 _ a3 _ a5 => ?_
        obtain ⟨b1, b2⟩ := a5 rRule sr _ hr hsep
        apply parlref2_factored.go13
        unfold parlref2_factored.t13
        rw [add_one (by omega)]
        exact ih L3 so' sr a1 a3 b1 b2
  exact key 0 (Nat.zero_le _) L1 ⟨none, 0, 0⟩ ⟨none, 0, 0⟩ (.refl _) (.nil _ _ _) (.nil _ _ _) (fun h => absurd h (Nat.lt_irrefl 0))
end
end Go.Proofs.YtekiknmhlfiemaaDoor
