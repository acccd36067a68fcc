/- parlref2.Starts and ClimbOf. -/
import Derived.Test.YtpgpognmdejdaaaCTreeOf
import Derived.Test.YtpgpognmdejdaaaCCloneI
set_option linter.all false
namespace Go.Proofs.Ytpgpognmdejdaaa
open Go Go.Proofs.Ytpgpognmdejdaaa.GH

theorem cntP_le {t : Tbl} (hv : PValid t) : ∀ xs : List Int, -(xs.length : Int) ≤ cntP t xs ∧ cntP t xs ≤ xs.length
  | [] => by simp [cntP]
  | x :: r => by
    have := cntP_le hv r
    simp only [cntP, List.length_cons]
    repeat' split
    all_goals omega

theorem int_cells {L : GHeap} {x : Int} : Cells rI L [.int .i64 x] [x] := Cells.cons (c := [.int .i64 x]) rfl .nil

theorem Starts_spec {L : GHeap} {t : Tbl} {st sw : Sl} {w : List Int} (hv : PValid t) (hb : (lvlOps t.levels).length ≤ 1048570) (hst : IsSl rLvl L st t.levels) (hw : IsSl rI L sw w) (hwl : w.length ≤ 400) :
    ACalls PP parlref2_Starts.id [tblV t st, .slice sw.a sw.n sw.c] L fun v L' => Le L L' ∧ ∃ b : Bool, v = .bool b ∧ (b = true ↔ Strt t w) := by
  have hwn := hw.n
  apply parlref2_Starts.go
  unfold parlref2_Starts.t
  -- closing parentheses are added
  have clos : ∀ j, j ≤ (cntP t w).toNat → ∀ (se sm : Sl) (L1 : GHeap), Le L L1 → Own L rI L1 se (w ++ List.replicate j t.cls) → Own L rI L1 sm (w ++ [t.atom] ++ List.replicate j t.cls) → Sep se sm →
      parlref2_Starts.c13 (fun v L' => Le L L' ∧ ∃ b : Bool, v = .bool b ∧ (b = true ↔ Strt t w)) se sm (cntP t w) ((j : Nat) : Int) t.terms t.atom t.opn t.cls st L1 := by
    have hcl := cntP_le hv w
    refine down ?_ ?_
    · intro se sm L1 hle he hm hs
      apply parlref2_Starts.go13
      refine bcD (fun h => absurd h (by omega)) fun _ => ?_
      refine (TreeOf_spec hv hb _ _ 0 se L1 rfl (by simp; omega) (by omega) (hst.mono hle.toLeM) he.sl).mono ?_
      rintro v L2 ⟨hle2, x, sx, ok, rfl, hx⟩
      refine ⟨_, _, sx, ok, rfl, ?_⟩
      refine (TreeOf_spec hv hb _ _ 0 sm L2 rfl (by simp; omega) (by omega) (hst.mono (hle.trans hle2).toLeM) (hm.sl.mono hle2.toLeM)).mono ?_
      rintro v L3 ⟨hle3, y, sy, ok', rfl, hy⟩
      refine ⟨_, _, sy, ok', rfl, bcI (fun h => ?_) fun h => ?_⟩
      · refine ⟨(hle.trans hle2).trans hle3, true, rfl, fun _ => .inl ?_, fun _ => rfl⟩
        rcases hx with ⟨_, hx, _⟩ | ⟨h', _⟩
        · exact ⟨x, hx⟩
        · rw [h] at h'; cases h'
      · refine ⟨(hle.trans hle2).trans hle3, ok', rfl, fun h' => .inr ?_, fun h' => ?_⟩
        · rcases hy with ⟨_, hy, _⟩ | ⟨h'', _⟩
          · exact ⟨y, hy⟩
          · rw [h'] at h''; cases h''
        · rcases hx with ⟨h'', _⟩ | ⟨_, hx⟩
          · rw [h] at h''; cases h''
          · rcases h' with h' | h'
            · exact absurd h' hx
            · rcases hy with ⟨h'', _⟩ | ⟨_, hy⟩
              · exact h''
              · exact absurd h' hy
    · intro j hj ih se sm L1 hle he hm hs
      apply parlref2_Starts.go13
      refine bcD (fun _ => (fun x => ⟨⟨x, x⟩, x⟩) ?_) fun h => absurd (by omega) h
      refine Own.append (R := rI) (bytes := 8) (m := 1) (ys := [t.cls]) he hle int_cells rfl (.inl (by simp; omega)) fun se' L2 g1 _ g3 _ g5 => ?_
      obtain ⟨q1, q2⟩ := g5 rI sm _ hm hs
      refine Own.append (R := rI) (bytes := 8) (m := 1) (ys := [t.cls]) q1 g1 int_cells rfl (.inl (by simp; omega)) fun sm' L3 k1 _ k3 _ k5 => ?_
      obtain ⟨r1, r2⟩ := k5 rI se' _ g3 q2.symm
      apply parlref2_Starts.go15
      unfold parlref2_Starts.t15
      rw [add_one (by omega)]
      refine ih se' sm' L3 k1 ?_ ?_ r2.symm
      · rw [List.replicate_succ', ← List.append_assoc]; exact r1
      · rw [List.replicate_succ', ← List.append_assoc]; exact k3
  have key : ∀ i, i ≤ w.length → parlref2_Starts.c3 (fun v L' => Le L L' ∧ ∃ b : Bool, v = .bool b ∧ (b = true ↔ Strt t w)) sw (cntP t (w.take i)) sw ((sw.n : Nat) : Int) ((i : Nat) : Int) t.terms t.atom t.opn t.cls st L := by
    refine down ?_ ?_
    · rw [List.take_length]
      apply parlref2_Starts.go3
      refine bcD (fun h => absurd h (by omega)) fun _ => ?_
      refine (CloneI_spec hw (by omega)).mono ?_
      rintro v L1 ⟨se, rfl, hle1, he⟩
      have fin : ACalls PP slices_Clone_int_int.id [.slice sw.a sw.n sw.c] L1 fun v L2 => ∃ x46 : Sl, v = .slice x46.a x46.n x46.c ∧
          appendK 1 8 L2 x46 1 [.int .i64 t.atom] fun x50 L' => parlref2_Starts.c12 (fun v L' => Le L L' ∧ ∃ b : Bool, v = .bool b ∧ (b = true ↔ Strt t w)) (cntP t w) se x50 t.terms t.atom t.opn t.cls st L' := by
        refine (CloneI_spec (hw.mono hle1.toLeM) (by omega)).mono ?_
        rintro v L2 ⟨sm, rfl, hle2, hm⟩
        refine ⟨sm, rfl, ?_⟩
        have hsep : Sep se sm := (Own.sep hm he).symm
        refine Own.append (R := rI) (bytes := 8) (m := 1) (ys := [t.atom]) (hm.back hle1.toLeM) (hle1.trans hle2) int_cells rfl (.inl (by omega)) fun sm' L3 k1 _ k3 _ k5 => ?_
        obtain ⟨r1, r2⟩ := k5 rI se _ (he.mono hle2) hsep.symm
        apply parlref2_Starts.go12
        unfold parlref2_Starts.t12
        exact clos 0 (Nat.zero_le _) se sm' L3 k1 (by simpa using r1) (by simpa using k3) r2.symm
      exact ⟨se, rfl, both fin⟩
    · intro i hi ih
      have hx := List.getElem?_eq_getElem hi
      rw [List.take_succ_eq_append_getElem hi, cntP_append] at ih
      have hcl := cntP_le hv (w.take i)
      rw [List.length_take] at hcl
      generalize w[i] = x at *
      generalize cntP t (w.take i) = c at *
      have e : cntP t [x] = (if t.opn ≠ -1 ∧ x = t.opn then 1 else 0) - (if t.opn ≠ -1 ∧ x = t.cls then 1 else 0) := by simp [cntP]
      rw [e] at ih
      apply parlref2_Starts.go3
      refine bcD (fun _ => ?_) fun h => absurd (by omega) h
      refine hw.get hx fun a cs hK hc => ?_
      obtain rfl := hK
      refine ⟨_, reads_one hc, ?_⟩
      have c9 : ∀ d : Int, d = c + ((if t.opn ≠ -1 ∧ x = t.opn then 1 else 0) - (if t.opn ≠ -1 ∧ x = t.cls then 1 else 0)) → parlref2_Starts.c9 (fun v L' => Le L L' ∧ ∃ b : Bool, v = .bool b ∧ (b = true ↔ Strt t w)) sw d sw ((sw.n : Nat) : Int) ((i : Nat) : Int) t.terms t.atom t.opn t.cls st L := by
        intro d hd
        apply parlref2_Starts.go9
        unfold parlref2_Starts.t9
        rw [add_one (by omega), hd]
        exact ih
      have c7 : ∀ d : Int, -1000 ≤ d → d ≤ 1000 → d = c + (if t.opn ≠ -1 ∧ x = t.opn then 1 else 0) → parlref2_Starts.c7 (fun v L' => Le L L' ∧ ∃ b : Bool, v = .bool b ∧ (b = true ↔ Strt t w)) sw d x sw ((sw.n : Nat) : Int) ((i : Nat) : Int) t.terms t.atom t.opn t.cls st L := by
        intro d d1 d2 hd
        apply parlref2_Starts.go7
        refine bcNE (fun ho => bcE (fun hc' => ?_) fun hc' => ?_) fun ho => ?_
        · apply parlref2_Starts.go8
          unfold parlref2_Starts.t8
          rw [w64_in (by omega) (by omega)]
          refine c9 _ ?_
          rw [if_pos (⟨ho, hc'⟩ : t.opn ≠ -1 ∧ x = t.cls)]; omega
        · refine c9 _ ?_
          rw [if_neg (fun h : t.opn ≠ -1 ∧ x = t.cls => hc' h.2)]; omega
        · refine c9 _ ?_
          rw [if_neg (fun h : t.opn ≠ -1 ∧ x = t.cls => h.1 ho)]; omega
      refine bcNE (fun ho => bcE (fun hc' => ?_) fun hc' => ?_) fun ho => ?_
      · rw [w64_in (by omega) (by omega)]
        refine c7 _ (by omega) (by omega) ?_
        rw [if_pos ⟨ho, hc'⟩]
      · refine c7 _ (by omega) (by omega) ?_
        rw [if_neg (fun h => hc' h.2)]; omega
      · refine c7 _ (by omega) (by omega) ?_
        rw [if_neg (fun h => h.1 ho)]; omega
  exact key 0 (Nat.zero_le _)

/-- What ClimbOf returns. -/
def COPost (L : GHeap) (t : Tbl) (w : List Int) (v : Value) (L' : GHeap) : Prop :=
  Le L L' ∧ ∃ (x : Tree) (so : Sl) (at_ : Int) (ok : Bool), v = .tuple #[treeV x so, .int .i64 at_, .bool ok] ∧ ((ok = true ∧ Fnd t w 0 x ∧ IsSl rTree L' so x.kids) ∨
    (ok = false ∧ (¬ ∃ x, Fnd t w 0 x) ∧ ∃ n : Nat, at_ = n ∧ n ≤ w.length ∧ (∀ m, 1 ≤ m → m ≤ n → Strt t (w.take m)) ∧ (n < w.length → ¬ Strt t (w.take (n + 1)))))

theorem ClimbOf_spec {L : GHeap} {t : Tbl} {st sw : Sl} {w : List Int} (hv : PValid t) (hb : (lvlOps t.levels).length ≤ 1048570) (hst : IsSl rLvl L st t.levels) (hw : IsSl rI L sw w) (hwl : w.length ≤ 400) :
    ACalls PP parlref2_ClimbOf.id [tblV t st, .slice sw.a sw.n sw.c] L (COPost L t w) := by
  have hwn := hw.n
  have hwc := hw.c
  apply parlref2_ClimbOf.go
  refine (TreeOf_spec hv hb _ w 0 sw L rfl (by omega) (by omega) hst hw).mono ?_
  rintro v L1 ⟨hle1, x, sx, ok, rfl, hx⟩
  refine ⟨_, _, sx, ok, rfl, ?_⟩
  rcases hx with ⟨rfl, hx, hsx⟩ | ⟨rfl, hno⟩
  · exact bcT rfl ⟨hle1, x, sx, 0, true, rfl, .inl ⟨rfl, hx, hsx⟩⟩
  refine bcF rfl ?_
  have done : ∀ n, n ≤ w.length → ∀ L2 : GHeap, Le L L2 → (∀ m, 1 ≤ m → m ≤ n → Strt t (w.take m)) → (n < w.length → ¬ Strt t (w.take (n + 1))) → parlref2_ClimbOf.c7 (COPost L t w) ((n : Nat) : Int) 0 0 ⟨none, 0, 0⟩ L2 := by
    intro n hn L2 hle hs hns
    apply parlref2_ClimbOf.go7
    exact ⟨hle, .mk 0 0 [], ⟨none, 0, 0⟩, n, false, rfl, .inr ⟨rfl, hno, n, rfl, hn, hs, hns⟩⟩
  have key : ∀ n, n ≤ w.length → ∀ L2 : GHeap, Le L L2 → (∀ m, 1 ≤ m → m ≤ n → Strt t (w.take m)) → parlref2_ClimbOf.c5 (COPost L t w) sw ((n : Nat) : Int) t.terms t.atom t.opn t.cls st 0 0 ⟨none, 0, 0⟩ L2 := by
    refine down ?_ ?_
    · intro L2 hle hs
      apply parlref2_ClimbOf.go5
      exact bcD (fun h => absurd h (by omega)) fun _ => done _ (Nat.le_refl _) L2 hle hs fun h => absurd h (Nat.lt_irrefl _)
    · intro n hn ih L2 hle hs
      apply parlref2_ClimbOf.go5
      unfold parlref2_ClimbOf.t5
      rw [add_one (by omega), Int.toNat_natCast]
      refine bcD (fun _ => ⟨⟨by omega, by omega⟩, ?_⟩) fun h => absurd (by omega) h
      refine (Starts_spec (sw := ⟨sw.a, n + 1, sw.c⟩) hv hb (hst.mono hle.toLeM) ((hw.mono hle.toLeM).take (by omega)) (by simp; omega)).mono ?_
      rintro v L3 ⟨hle3, b, rfl, hb'⟩
      refine ⟨b, rfl, bcI (fun h => ?_) fun h => ?_⟩
      · refine ih L3 (hle.trans hle3) fun m h1 h2 => ?_
        by_cases e : m = n + 1
        · rw [e]; exact hb'.1 h
        · exact hs m h1 (by omega)
      · exact done n (by omega) L3 (hle.trans hle3) hs fun _ h' => by rw [hb'.2 h'] at h; cases h
  exact key 0 (Nat.zero_le _) L1 hle1 fun m h1 h2 => by omega
end Go.Proofs.Ytpgpognmdejdaaa
