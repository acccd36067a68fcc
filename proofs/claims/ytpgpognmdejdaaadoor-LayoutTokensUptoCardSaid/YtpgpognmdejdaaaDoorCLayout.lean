/- Package layout: begin, Check, Strip, Lines. -/
import Derived.Test.YtpgpognmdejdaaaDoorVLayout
import Derived.Test.YtpgpognmdejdaaaDoorCContains
import Derived.Test.YtpgpognmdejdaaaDoorCLayLaw
set_option linter.all false
namespace Go.Proofs.YtpgpognmdejdaaaDoor
open Go Go.Proofs.YtpgpognmdejdaaaDoor.GH

theorem RO.of_le {f : FuncId} {args : List Value} {L : GHeap} {v : Value} (h : ACalls PP f args L fun u L' => u = v ∧ Le L L') : RO PP f args L v :=
  h.wk fun _ _ ⟨e, hl⟩ => ⟨L, ⟨hl.mem, hl.wr, hl.obj, hl.w0.symm, hl.n0.symm⟩, e, rfl⟩

theorem LastIdx_ro {L : GHeap} {s : ByteArray} (hs : s.size ≤ 1048576) : RO PP internal_bytealg_LastIndexByteString.id [.string s, .int .u8 10] L (.int .i64 (((bgn s s.size : Nat) : Int) - 1)) := by
  apply internal_bytealg_LastIndexByteString.go
  unfold internal_bytealg_LastIndexByteString.t
  have key : ∀ n, n ≤ s.size → bgn s s.size = bgn s n → internal_bytealg_LastIndexByteString.c2 (fun u L' => u = Value.int .i64 (((bgn s s.size : Nat) : Int) - 1) ∧ L' = L) s 10 ((n : Int) - 1) L := by
    intro n
    induction n with
    | zero =>
      intro _ he
      apply internal_bytealg_LastIndexByteString.go2
      exact bcD (fun h => absurd h (by omega)) fun _ => ⟨by rw [he]; rfl, rfl⟩
    | succ n ih =>
      intro hn he
      apply internal_bytealg_LastIndexByteString.go2
      have e : ((n + 1 : Nat) : Int) - 1 = (n : Int) := by omega
      rw [e]
      refine bcD (fun _ => ⟨⟨by omega, by omega⟩, bcE (fun h => ?_) fun h => ?_⟩) fun h => absurd (by omega) h
      · have h10 : s[n]! = 10 := by
          have h : ((s[n]!).toNat : Int) = 10 := by simpa using h
          exact UInt8.toNat_inj.1 (by show _ = 10; omega)
        refine ⟨?_, rfl⟩
        rw [he]; unfold bgn; rw [if_pos h10]; simp
      · have h10 : ¬ s[n]! = 10 := fun e' => h (by simp [e'])
        rw [w64_in (by omega) (by omega)]
        refine ih (by omega) ?_
        rw [he]
        conv => lhs; unfold bgn
        rw [if_neg h10]
  rw [w64_in (by omega) (by omega)]
  exact key s.size (Nat.le_refl _) rfl

theorem extract_get {s : ByteArray} {n i : Nat} (hn : n ≤ s.size) (hi : i < n) : (s.extract 0 n)[i]! = s[i]! := by
  have h1 : i < (s.extract 0 n).size := by simp; omega
  rw [getElem!_pos (s.extract 0 n) i h1, getElem!_pos s i (by omega)]
  simp [ByteArray.getElem_extract]

theorem bgn_extract {s : ByteArray} {n : Nat} (hn : n ≤ s.size) : ∀ m, m ≤ n → bgn (s.extract 0 n) m = bgn s m
  | 0, _ => rfl
  | m + 1, h => by
    unfold bgn
    rw [extract_get hn (by omega), bgn_extract hn m (by omega)]

theorem begin_ro {L : GHeap} {s : ByteArray} {n : Int} (hs : s.size ≤ 1048576) (h0 : 0 ≤ n) (hn : n ≤ s.size) : RO PP layout_begin.id [.string s, .int .i64 n] L (.int .i64 (bg s n)) := by
  obtain ⟨n, rfl⟩ := Int.eq_ofNat_of_zero_le h0
  have hn : n ≤ s.size := by omega
  have hsz : (s.extract 0 n).size = n := by simp; omega
  have hb := bgn_le s n
  apply layout_begin.go
  refine ⟨⟨by omega, by omega⟩, ?_⟩
  rw [Int.toNat_natCast]
  refine ACalls.mono (K := fun u L' => u = .int .i64 (((bgn (s.extract 0 n) (s.extract 0 n).size : Nat) : Int) - 1) ∧ L' = L) ?_ ?_
  · apply strings_LastIndexByte.go
    exact (LastIdx_ro (by rw [hsz]; omega)).use ⟨_, rfl, rfl, rfl⟩
  · rintro v L' ⟨rfl, rfl⟩
    refine ⟨_, rfl, ?_, rfl⟩
    rw [hsz, bgn_extract hn n (Nat.le_refl _), bg_nat, w64_in (by omega) (by omega)]
    congr 1; omega

theorem arr3 {L : GHeap} {b : Nat} {x y z : Int} (hu : L.unused b) : IsSl rI (L.alloc b [.int .i64 x, .int .i64 y, .int .i64 z] 3) ⟨some ⟨b, 0, none⟩, 3, 3⟩ [x, y, z] ∧ Le L (L.alloc b [.int .i64 x, .int .i64 y, .int .i64 z] 3) := by
  refine ⟨IsSl.of_cells (cs := [.int .i64 x, .int .i64 y, .int .i64 z]) ?_ rfl (Nat.le_refl _) alloc_reads, .alloc hu _ _⟩
  exact Cells.cons (R := rI) (c := [.int .i64 x]) rfl (Cells.cons (R := rI) (c := [.int .i64 y]) rfl (Cells.cons (R := rI) (c := [.int .i64 z]) rfl .nil))

theorem arr3_mem {L : GHeap} {b : Nat} {x y z : Int} : (L.alloc b [.int .i64 x, .int .i64 y, .int .i64 z] 3).mem ((⟨b, 0, none⟩ : Addr).add (Int.toNat 0 * 1)) = some (.int .i64 x) ∧ (L.alloc b [.int .i64 x, .int .i64 y, .int .i64 z] 3).mem ((⟨b, 0, none⟩ : Addr).add (Int.toNat 1 * 1)) = some (.int .i64 y) ∧
    (L.alloc b [.int .i64 x, .int .i64 y, .int .i64 z] 3).mem ((⟨b, 0, none⟩ : Addr).add (Int.toNat 2 * 1)) = some (.int .i64 z) := by
  refine ⟨?_, ?_, ?_⟩ <;> rw [spot_add, alloc_mem] <;> rfl

theorem isLay_mem {k : Ar3} {n : Int} : n ∈ [k.a, k.b, k.c] ↔ isLay k n := by simp [isLay]

theorem Check_ro {L : GHeap} {text : ByteArray} {s : Sl} {l : List Tok} {k : Ar3} (hs : IsSl rTok L s l) : RO PP layout_Check.id [.string text, .slice s.a s.n s.c, ar3V k] L (.int .i64 (lchk text.size k l)) := by
  have hn := hs.n
  refine RO.of_le ?_
  apply layout_Check.go
  intro b5 hu
  simp only [inL]
  obtain ⟨hA, hle⟩ := arr3 (x := k.a) (y := k.b) (z := k.c) hu
  obtain ⟨m0, m1, m2⟩ := arr3_mem (L := L) (b := b5) (x := k.a) (y := k.b) (z := k.c)
  have hs1 := hs.mono hle.toLeM
  generalize L.alloc b5 [.int .i64 k.a, .int .i64 k.b, .int .i64 k.c] 3 = L1 at *
  refine bcD (fun h => ?_) fun h => ?_
  · apply layout_Check.go2
    exact ⟨by unfold lchk; rw [if_pos (by omega)], hle⟩
  refine bcD (fun h1 => ?_) fun h1 => ?_
  · apply layout_Check.go2
    exact ⟨by unfold lchk; rw [if_neg (by omega), if_pos (by omega)], hle⟩
  have thr : (k.a = k.b ∨ k.a = k.c ∨ k.b = k.c) → layout_Check.c4 (fun u L' => u = Value.int .i64 (lchk text.size k l) ∧ Le L L') L1 := by
    intro hk
    apply layout_Check.go4
    exact ⟨by unfold lchk; rw [if_neg (by omega), if_neg (by omega), if_pos hk], hle⟩
  refine ⟨⟨by omega, by omega⟩, _, m0, ⟨by omega, by omega⟩, _, m1, bcE (fun e => thr (.inl e)) fun e1 => ?_⟩
  refine ⟨⟨by omega, by omega⟩, _, m0, ⟨by omega, by omega⟩, _, m2, bcE (fun e => thr (.inr (.inl e))) fun e2 => ?_⟩
  refine ⟨⟨by omega, by omega⟩, _, m1, ⟨by omega, by omega⟩, _, m2, bcE (fun e => thr (.inr (.inr e))) fun e3 => ?_⟩
  have eq : lchk text.size k l = lchkL text.size k 0 l := by
    unfold lchk
    rw [if_neg (by omega), if_neg (by omega), if_neg]
    rintro (h | h | h)
    · exact e1 h
    · exact e2 h
    · exact e3 h
  rw [eq]
  have key : ∀ i, i ≤ l.length → ∀ at_ : Int, lchkL text.size k 0 l = lchkL text.size k at_ (l.drop i) → layout_Check.c7 (fun u L' => u = Value.int .i64 (lchkL text.size k 0 l) ∧ Le L L') text ⟨b5, 0, none⟩ at_ s ((s.n : Nat) : Int) ((i : Nat) : Int) L1 := by
    refine down ?_ ?_
    · intro at_ he
      apply layout_Check.go7
      refine bcD (fun h => absurd h (by omega)) fun _ => ⟨?_, hle⟩
      rw [he, List.drop_length]; rfl
    · intro i hi ih at_ he
      apply layout_Check.go7
      rw [List.drop_eq_getElem_cons hi] at he
      have hx := List.getElem?_eq_getElem hi
      generalize l[i] = t at *
      simp only [lchkL] at he
      have arg : lchkL text.size k 0 l = 1 → layout_Check.c10 (fun u L' => u = Value.int .i64 (lchkL text.size k 0 l) ∧ Le L L') L1 := by
        intro h
        apply layout_Check.go10
        exact ⟨by rw [h], hle⟩
      refine bcD (fun _ => ?_) fun h => absurd (by omega) h
      refine hs1.get hx fun a cs hK hc => ?_
      obtain rfl := hK
      refine ⟨_, _, _, hc, bcD (fun h => arg (by rw [he, if_pos h])) fun h1 => ?_⟩
      rw [if_neg h1] at he
      refine bcD (fun h => arg (by rw [he, if_pos h])) fun h2 => ?_
      rw [if_neg h2] at he
      refine bcD (fun h => arg (by rw [he, if_pos h])) fun h3 => ?_
      rw [if_neg h3] at he
      refine (Contains_ro (v := t.kind) hA (by simp)).use ⟨_, rfl, bcD (fun h => ?_) fun h => ?_⟩
      · rw [isLay_mem] at h
        rw [if_pos h] at he
        exact ⟨by rw [he], hle⟩
      · rw [isLay_mem] at h
        rw [if_neg h] at he
        rw [add_one (by omega)]
        exact ih _ he
  exact key 0 (Nat.zero_le _) 0 rfl

theorem tok_cells {L : GHeap} {t : Tok} : Cells rTok L [.int .i64 t.kind, .int .i64 t.fr, .int .i64 t.to] [t] := Cells.cons (R := rTok) (c := [.int .i64 t.kind, .int .i64 t.fr, .int .i64 t.to]) rfl .nil

theorem Strip_spec {L : GHeap} {s : Sl} {l : List Tok} {k : Ar3} (hs : IsSl rTok L s l) (hb : l.length ≤ 1048576) : ACalls PP layout_Strip.id [.slice s.a s.n s.c, ar3V k] L fun v L' => Le L L' ∧ ∃ so : Sl, v = .slice so.a so.n so.c ∧ IsSl rTok L' so (stripM k l) := by
  have hn := hs.n
  apply layout_Strip.go
  intro b hu
  simp only [inL]
  obtain ⟨hA, hle⟩ := arr3 (x := k.a) (y := k.b) (z := k.c) hu
  have hs1 := hs.mono hle.toLeM
  generalize L.alloc b [.int .i64 k.a, .int .i64 k.b, .int .i64 k.c] 3 = L1 at *
  have key : ∀ i, i ≤ l.length → ∀ (so : Sl) (L2 : GHeap), Le L1 L2 → Own L1 rTok L2 so (stripM k (l.take i)) → layout_Strip.c3 (fun v L' => Le L L' ∧ ∃ so : Sl, v = .slice so.a so.n so.c ∧ IsSl rTok L' so (stripM k l)) ⟨b, 0, none⟩ so s ((s.n : Nat) : Int) ((i : Nat) : Int) L2 := by
    refine down ?_ ?_
    · intro so L2 h2 ho
      apply layout_Strip.go3
      refine bcD (fun h => absurd h (by omega)) fun _ => ⟨hle.trans h2, so, rfl, ?_⟩
      rw [List.take_length] at ho
      exact ho.sl
    · intro i hi ih so L2 h2 ho
      apply layout_Strip.go3
      have hx := List.getElem?_eq_getElem hi
      rw [List.take_succ_eq_append_getElem hi, strip_append] at ih
      generalize l[i] = t at *
      have hlen : (stripM k (l.take i)).length ≤ i := by
        have := List.length_filter_le (fun t : Tok => !decide (isLay k t.kind)) (l.take i)
        rw [List.length_take] at this
        unfold stripM; omega
      refine bcD (fun _ => ?_) fun h => absurd (by omega) h
      refine (hs1.mono h2.toLeM).get hx fun a cs hK hc => ?_
      obtain rfl := hK
      refine ⟨_, _, _, hc, (Contains_ro (v := t.kind) (hA.mono h2.toLeM) (by simp)).use ⟨_, rfl, bcN (bcD (fun h => ?_) fun h => ?_)⟩⟩
      · rw [isLay_mem] at h
        rw [strip_lay h, List.append_nil] at ih
        apply layout_Strip.go7
        unfold layout_Strip.t7
        rw [add_one (by omega)]
        exact ih so L2 h2 ho
      · rw [isLay_mem] at h
        rw [strip_tok h] at ih
        refine Own.append (R := rTok) (bytes := 24) (m := 1) (ys := [t]) ho h2 tok_cells rfl (.inl (by omega)) fun so' L3 g1 _ g3 _ _ => ?_
        apply layout_Strip.go7
        unfold layout_Strip.t7
        rw [add_one (by omega)]
        exact ih so' L3 g1 g3
  exact key 0 (Nat.zero_le _) ⟨none, 0, 0⟩ L1 (.refl _) (.nil _ _ _)

theorem EqualTok_ro {L : GHeap} {s u : Sl} {xs ys : List Tok} (hs : IsSl rTok L s xs) (hu : IsSl rTok L u ys) (hb : xs.length ≤ 1048576) : RO PP slices_Equal_api_Token_api_Token.id [.slice s.a s.n s.c, .slice u.a u.n u.c] L (.bool (decide (xs = ys))) := by
  have hn := hs.n
  have hm := hu.n
  apply slices_Equal_api_Token_api_Token.go
  refine bcNE (fun h => ⟨?_, rfl⟩) fun h => ?_
  · rw [decide_eq_false (fun e => h (by rw [hn, hm, e]))]
  have hl : xs.length = ys.length := by omega
  have key : ∀ i, i ≤ xs.length → xs.take i = ys.take i → slices_Equal_api_Token_api_Token.c4 (fun v L' => v = Value.bool (decide (xs = ys)) ∧ L' = L) s u ((s.n : Nat) : Int) ((i : Nat) : Int) L := by
    refine down ?_ ?_
    · intro he
      apply slices_Equal_api_Token_api_Token.go4
      refine bcD (fun h => absurd h (by omega)) fun _ => ⟨?_, rfl⟩
      rw [List.take_length, hl, List.take_length] at he
      rw [decide_eq_true he]
    · intro i hi ih he
      apply slices_Equal_api_Token_api_Token.go4
      have hx := List.getElem?_eq_getElem hi
      have hy := List.getElem?_eq_getElem (l := ys) (i := i) (by omega)
      rw [List.take_succ_eq_append_getElem hi, List.take_succ_eq_append_getElem (l := ys) (by omega)] at ih
      refine bcD (fun _ => ?_) fun h => absurd (by omega) h
      refine hs.get hx fun a cs hK hc => ?_
      obtain rfl := hK
      refine ⟨_, _, _, hc, hu.get hy fun a' cs' hK' hc' => ?_⟩
      obtain rfl := hK'
      refine ⟨_, _, _, hc', bcN (bcI (fun h => ?_) fun h => ?_)⟩
      · rw [add_one (by omega)]
        refine ih ?_
        have e : xs[i] = ys[i] := by
          simp only [Bool.and_eq_true, beq_iff_eq] at h
          cases hxx : xs[i]; cases hyy : ys[i]
          rw [hxx, hyy] at h
          simp only at h
          rw [h.1, h.2.1, h.2.2]
        rw [he, e]
      · refine ⟨?_, rfl⟩
        rw [decide_eq_false]
        intro e
        subst e
        simp at h
  exact key 0 (Nat.zero_le _) rfl

/-- What Lines returns. -/
def LinesPost (L : GHeap) (r : Except Int (List Lvl)) (v : Value) (L' : GHeap) : Prop :=
  Le L L' ∧ ∃ (so : Sl) (e : Int), v = .tuple #[.slice so.a so.n so.c, .int .i64 e] ∧ ((e ≠ 0 ∧ r = .error e ∧ so = ⟨none, 0, 0⟩) ∨ (e = 0 ∧ ∃ ls, r = .ok ls ∧ IsSl rLvl L' so ls))

/-- What is left to read. -/
def lrest (k : Ar3) (s : LS) (l : List Tok) : Except Int (List Lvl) := match (match lrun k s l with | none => none | some s => lfin s) with
  | none => .error 3
  | some ls => .ok ls
theorem lrest_nil {k : Ar3} {s : LS} : lrest k s [] = match lfin s with | none => .error 3 | some ls => .ok ls := rfl
theorem lrest_cons {k : Ar3} {s : LS} {t : Tok} {l : List Tok} : lrest k s (t :: l) = match lstep k s t with | none => .error 3 | some s' => lrest k s' l := by
  unfold lrest
  rw [lrun_cons]
  cases lstep k s t <;> rfl

theorem Lines_spec {L : GHeap} {s : Sl} {l : List Tok} {k : Ar3} (hs : IsSl rTok L s l) : ACalls PP layout_Lines.id [.slice s.a s.n s.c, ar3V k] L (LinesPost L (linesR k l)) := by
  have hn := hs.n
  apply layout_Lines.go
  refine bcD (fun h => ?_) fun h => ?_
  · exact ⟨.refl L, ⟨none, 0, 0⟩, 2, rfl, .inl ⟨by decide, by unfold linesR; rw [if_pos (by omega)], rfl⟩⟩
  have thr : (k.a = k.b ∨ k.a = k.c ∨ k.b = k.c) → layout_Lines.c4 (LinesPost L (linesR k l)) L := by
    intro hk
    apply layout_Lines.go4
    exact ⟨.refl L, ⟨none, 0, 0⟩, 6, rfl, .inl ⟨by decide, by unfold linesR; rw [if_neg (by omega), if_pos hk], rfl⟩⟩
  refine ⟨⟨by omega, by omega⟩, ⟨by omega, by omega⟩, bcE (fun e => thr (.inl e)) fun e1 => ?_⟩
  refine ⟨⟨by omega, by omega⟩, ⟨by omega, by omega⟩, bcE (fun e => thr (.inr (.inl e))) fun e2 => ?_⟩
  refine ⟨⟨by omega, by omega⟩, ⟨by omega, by omega⟩, bcE (fun e => thr (.inr (.inr e))) fun e3 => ?_⟩
  have eq : linesR k l = lrest k ⟨0, [], [], true⟩ l := by
    unfold linesR lrest linesM
    rw [if_neg (by omega), if_neg (by rintro (h | h | h); exact e1 h; exact e2 h; exact e3 h)]
    rfl
  rw [eq]
  generalize hR0 : lrest k ⟨0, [], [], true⟩ l = R
  have bad : ∀ {L1 : GHeap}, Le L L1 → R = .error 3 → LinesPost L R (.tuple #[.slice none 0 0, .int .i64 3]) L1 := fun hle hR => ⟨hle, ⟨none, 0, 0⟩, 3, rfl, .inl ⟨by decide, hR, rfl⟩⟩
  have key : ∀ i, i ≤ l.length → ∀ (st : LS) (so sr : Sl) (L1 : GHeap), Le L L1 → Own L rLvl L1 so st.out → Own L rI L1 sr st.row → Sep so sr → st.out.length ≤ i → st.row.length ≤ i → -(i : Int) ≤ st.depth → st.depth ≤ i → R = lrest k st (l.drop i) →
      layout_Lines.c10 (LinesPost L R) so st.depth sr st.may s ((s.n : Nat) : Int) ((i : Nat) : Int) k.a k.b k.c L1 := by
    refine down ?_ ?_
    · intro st so sr L1 hle ho hr hsep n1 n2 d1 d2 hR
      have hon := ho.sl.n
      have hrn := hr.sl.n
      rw [List.drop_length] at hR
      apply layout_Lines.go10
      refine bcD (fun h => absurd h (by omega)) fun _ => bcD (fun h => ?_) fun h => ?_
      · apply layout_Lines.go31
        refine bad hle ?_
        rw [hR, lrest_nil]; unfold lfin
        rw [if_pos (.inl (by intro e; rw [e] at hrn; simp at hrn; omega))]
      · refine bcD (fun h2 => ?_) fun h2 => ?_
        · apply layout_Lines.go31
          refine bad hle ?_
          rw [hR, lrest_nil]; unfold lfin
          rw [if_pos (.inr h2)]
        · refine ⟨hle, so, 0, rfl, .inr ⟨rfl, st.out, ?_, ho.sl⟩⟩
          rw [hR, lrest_nil]; unfold lfin
          rw [if_neg]
          rintro (h' | h')
          · exact h' (List.eq_nil_of_length_eq_zero (by omega))
          · exact h2 h'
    · intro i hi ih st so sr L1 hle ho hr hsep n1 n2 d1 d2 hR
      have hon := ho.sl.n
      have hrn := hr.sl.n
      rw [List.drop_eq_getElem_cons hi, lrest_cons] at hR
      have hx := List.getElem?_eq_getElem hi
      generalize l[i] = t at *
      have next : ∀ (st' : LS) (so' sr' : Sl) (L2 : GHeap), lstep k st t = some st' → Le L L2 → Own L rLvl L2 so' st'.out → Own L rI L2 sr' st'.row → Sep so' sr' → st'.out.length ≤ i + 1 → st'.row.length ≤ i + 1 → -((i + 1 : Nat) : Int) ≤ st'.depth → st'.depth ≤ ((i + 1 : Nat) : Int) →
          layout_Lines.c29 (LinesPost L R) so' st'.depth sr' st'.may s ((s.n : Nat) : Int) ((i : Nat) : Int) k.a k.b k.c L2 := by
        intro st' so' sr' L2 hs' h1 h2 h3 h4 h5 h6 h7 h8
        apply layout_Lines.go29
        unfold layout_Lines.t29
        rw [add_one (by omega)]
        rw [hs'] at hR
        exact ih st' so' sr' L2 h1 h2 h3 h4 h5 h6 h7 h8 hR
      have fails : lstep k st t = none → R = .error 3 := fun e => by rw [hR, e]
      have rne : ((sr.n : Nat) : Int) > 0 → st.row ≠ [] := fun h e => by rw [e] at hrn; simp at hrn; omega
      have req : ¬ ((sr.n : Nat) : Int) > 0 → st.row = [] := fun h => List.eq_nil_of_length_eq_zero (by omega)
      apply layout_Lines.go10
      refine bcD (fun _ => ?_) fun h => absurd (by omega) h
      refine (hs.mono hle.toLeM).get hx fun a cs hK hc => ?_
      obtain rfl := hK
      refine ⟨_, _, _, hc, ⟨by omega, by omega⟩, bcE (fun ea => ?_) fun ea => ?_⟩
      · have st16 : (st.row ≠ [] ∨ st.out = [] ∨ st.may = false) → layout_Lines.c16 (LinesPost L R) L1 := by
          intro h
          apply layout_Lines.go16
          exact bad hle (fails (by unfold lstep; rw [if_pos ea, if_pos h]))
        refine bcD (fun h => st16 (.inl (rne h))) fun h1 => ?_
        refine bcE (fun h => st16 (.inr (.inl (List.eq_nil_of_length_eq_zero (by omega))))) fun h2 => ?_
        refine bcN (bcI (fun h3 => ?_) fun h3 => st16 (.inr (.inr h3)))
        rw [w64_in (by omega) (by omega)]
        refine next { st with depth := st.depth + 1, may := false } so sr L1 ?_ hle ho hr hsep (by simp only; omega) (by simp only; omega) (by simp only; omega) (by simp only; omega)
        unfold lstep
        rw [if_pos ea, if_neg]
        rintro (h | h | h)
        · exact h (req h1)
        · exact h2 (by rw [hon, h]; rfl)
        · rw [h3] at h; cases h
      · refine ⟨⟨by omega, by omega⟩, bcE (fun eb => ?_) fun eb => ?_⟩
        · have st21 : (st.row ≠ [] ∨ st.depth = 0 ∨ st.out = [] ∨ lastD st.out < st.depth) → layout_Lines.c21 (LinesPost L R) L1 := by
            intro h
            apply layout_Lines.go21
            exact bad hle (fails (by unfold lstep; rw [if_neg ea, if_pos eb, if_pos h]))
          refine bcD (fun h => st21 (.inl (rne h))) fun h1 => ?_
          refine bcE (fun h => st21 (.inr (.inl h))) fun h2 => ?_
          refine bcE (fun h => st21 (.inr (.inr (.inl (List.eq_nil_of_length_eq_zero (by omega)))))) fun h3 => ?_
          have hpos : 0 < st.out.length := by
            rcases Nat.eq_zero_or_pos st.out.length with h | h
            · exact absurd (by rw [hon, h]; rfl) h3
            · exact h
          have hlast : st.out[(w64 (((so.n : Nat) : Int) - 1)).toNat]? = some st.out[st.out.length - 1] := by
            rw [w64_in (by omega) (by omega), hon]
            rw [show (((st.out.length : Nat) : Int) - 1).toNat = st.out.length - 1 by omega]
            exact List.getElem?_eq_getElem (by omega)
          have hlD : lastD st.out = st.out[st.out.length - 1].kind := by
            unfold lastD
            rw [List.getLast?_eq_getElem?, List.getElem?_eq_getElem (by omega)]
          refine ho.sl.getI (by rw [w64_in (by omega) (by omega)]; omega) hlast fun a2 cs2 hK2 hc2 => ?_
          obtain ⟨s2, rfl, _⟩ := hK2
          have hm2 := hc2.1
          rw [add_zero] at hm2
          refine ⟨_, hm2, bcD (fun h => st21 (.inr (.inr (.inr (by rw [hlD]; exact h))))) fun h4 => ?_⟩
          rw [w64_in (by omega) (by omega)]
          refine next { st with depth := st.depth - 1, may := false } so sr L1 ?_ hle ho hr hsep (by simp only; omega) (by simp only; omega) (by simp only; omega) (by simp only; omega)
          unfold lstep
          rw [if_neg ea, if_pos eb, if_neg]
          rintro (h | h | h | h)
          · exact h (req h1)
          · exact h2 h
          · rw [h] at hpos; cases hpos
          · rw [hlD] at h; exact h4 h
        · refine ⟨⟨by omega, by omega⟩, bcE (fun ec => ?_) fun ec => ?_⟩
          · refine bcE (fun h => ?_) fun h => ?_
            · exact bad hle (fails (by unfold lstep; rw [if_neg ea, if_neg eb, if_pos ec, if_pos (List.eq_nil_of_length_eq_zero (by omega))]))
            · refine Own.append (R := rLvl) (bytes := 32) (m := 1) (ys := [⟨st.depth, st.row⟩]) ho hle (Cells.cons (c := [.int .i64 st.depth, .slice sr.a sr.n sr.c]) ⟨sr, rfl, hr.sl⟩ .nil) rfl (.inl (by omega)) fun so' L2 g1 _ g3 _ _ => ?_
              refine next ⟨st.depth, [], st.out ++ [⟨st.depth, st.row⟩], true⟩ so' ⟨none, 0, 0⟩ L2 ?_ g1 g3 (.nil _ _ _) (fun _ h => absurd h (Nat.lt_irrefl 0)) (by simp only [List.length_append, List.length_cons, List.length_nil]; omega) (by simp) (by simp only; omega) (by simp only; omega)
              unfold lstep
              rw [if_neg ea, if_neg eb, if_pos ec, if_neg]
              intro e
              exact h (by rw [hrn, e]; rfl)
          · refine Own.append (R := rI) (bytes := 8) (m := 1) (ys := [t.kind]) hr hle (Cells.cons (c := [.int .i64 t.kind]) rfl .nil) rfl (.inl (by omega)) fun sr' L2 g1 _ g3 _ g5 => ?_
            obtain ⟨q1, q2⟩ := g5 rLvl so st.out ho hsep.symm
            refine next { st with row := st.row ++ [t.kind] } so sr' L2 ?_ g1 q1 g3 q2.symm (by simp only; omega) (by simp only [List.length_append, List.length_cons, List.length_nil]; omega) (by simp only; omega) (by simp only; omega)
            unfold lstep
            rw [if_neg ea, if_neg eb, if_neg ec]
  exact key 0 (Nat.zero_le _) ⟨0, [], [], true⟩ ⟨none, 0, 0⟩ ⟨none, 0, 0⟩ L (.refl _) (.nil _ _ _) (.nil _ _ _) (fun h => absurd h (Nat.lt_irrefl 0)) (Nat.le_refl _) (Nat.le_refl _) (by simp) (by simp) hR0.symm
end Go.Proofs.YtpgpognmdejdaaaDoor
