/- Package factor: Inline. -/
import Derived.Test.YtjmpheidcofhnaaDoorCLonger
import Derived.Test.YtjmpheidcofhnaaDoorLibD
import Derived.Test.YtjmpheidcofhnaaDoorCChk
set_option linter.all false
namespace Go.Proofs.YtjmpheidcofhnaaDoor
open Go Go.Proofs.YtjmpheidcofhnaaDoor.GH

theorem ContainsSym_ro {L : GHeap} {s : Sl} {xs : List Sym} {y : Sym} (hs : IsSl rSym L s xs) (hb : xs.length ≤ 1048576) : RO PP slices_Contains_api_Sym_api_Sym.id [.slice s.a s.n s.c, .agg #[.bool y.term, .int .i64 y.n]] L (.bool (decide (y ∈ xs))) := by
  have key : ∀ i, i ≤ xs.length → ∃ k : Int, (0 ≤ k ↔ y ∈ xs.drop i) ∧ slices_Index_api_Sym_api_Sym.c2 (fun v L' => v = Value.int .i64 k ∧ L' = L) s ((s.n : Nat) : Int) ((i : Nat) : Int) y.term y.n L := by
    refine down ?_ ?_
    · refine ⟨-1, ⟨fun h => by omega, fun h => by rw [List.drop_length] at h; cases h⟩, ?_⟩
      apply slices_Index_api_Sym_api_Sym.go2
      exact bcD (fun h => absurd h (by rw [hs.n]; omega)) fun _ => ⟨rfl, rfl⟩
    · rintro i hi ⟨k, hk, hrun⟩
      rw [List.drop_eq_getElem_cons hi]
      by_cases hx : y = xs[i]
      · refine ⟨(i : Int), ⟨fun _ => by rw [hx]; exact List.mem_cons_self .., fun _ => by omega⟩, ?_⟩
        apply slices_Index_api_Sym_api_Sym.go2
        refine bcD (fun _ => ?_) fun h => absurd (by rw [hs.n]; omega) h
        refine hs.get (List.getElem?_eq_getElem hi) fun a cs hK hc => ?_
        obtain rfl := hK
        exact ⟨_, _, hc, bcT (by rw [hx]; simp) ⟨rfl, rfl⟩⟩
      · refine ⟨k, by rw [hk, List.mem_cons]; exact ⟨.inr, fun h => h.resolve_left hx⟩, ?_⟩
        apply slices_Index_api_Sym_api_Sym.go2
        refine bcD (fun _ => ?_) fun h => absurd (by rw [hs.n]; omega) h
        refine hs.get (List.getElem?_eq_getElem hi) fun a cs hK hc => ?_
        obtain rfl := hK
        refine ⟨_, _, hc, bcF ?_ ?_⟩
        · cases he : ((y.term == xs[i].term) && (y.n == xs[i].n)) with
          | false => rfl
          | true =>
            exfalso
            simp only [Bool.and_eq_true, beq_iff_eq] at he
            apply hx
            cases y; cases hxi : xs[i]; rw [hxi] at he; simp only at he; rw [he.1, he.2]
        · rw [add_one (by omega)]; exact hrun
  obtain ⟨k, hk, hrun⟩ := key 0 (Nat.zero_le _)
  rw [List.drop_zero] at hk
  apply slices_Contains_api_Sym_api_Sym.go
  refine RO.use (v := .int .i64 k) (slices_Index_api_Sym_api_Sym.go hrun) ⟨k, rfl, ?_, rfl⟩
  congr 1
  rw [decide_eq_decide]
  exact hk

def inV (g : Gram) (so sf : Sl) : Value := .agg #[.int .i64 g.terms, .int .i64 g.nons, .int .i64 g.start, .slice so.a so.n so.c, .slice sf.a sf.n sf.c]
def InlPost (g : Gram) (n : Int) (L : GHeap) (v : Value) (L' : GHeap) : Prop :=
  Le L L' ∧ ((InlOk g n ∧ ∃ so sf : Sl, v = .tuple #[inV (inlG g n) so sf, .int .i64 0] ∧ IsSl rRule L' so (inlG g n).rules ∧ IsSl (rS rI) L' sf (inlF g n)) ∨
    (¬ InlOk g n ∧ ∃ e : Int, e ≠ 0 ∧ v = .tuple #[inV ⟨0, 0, 0, []⟩ ⟨none, 0, 0⟩ ⟨none, 0, 0⟩, .int .i64 e]))

/-! How many rules there are on the way: never more than at the end, unless there are few. -/
theorem lngL_len {g : Gram} {n : Int} (s : Sym) : ∀ acc : List (List Sym × List Int), (lngL g n acc s).length = if isN n s = true then (inOwn g n).length * acc.length else acc.length
  | [] => by simp [lngL]
  | x :: acc => by
    have ih := lngL_len (g := g) (n := n) s acc
    unfold lngL at ih ⊢
    rw [List.flatMap_cons, List.length_append, ih]
    unfold lngE
    split
    · rw [List.length_map, List.length_cons, Nat.mul_add]; omega
    · simp only [List.length_cons, List.length_nil]; omega
theorem fold_few {g : Gram} {n : Int} (h0 : (inOwn g n).length = 0) : ∀ (ss : List Sym) (acc : List (List Sym × List Int)), (ss.foldl (lngL g n) acc).length ≤ acc.length
  | [], _ => Nat.le_refl _
  | s :: ss, acc => by
    refine Nat.le_trans (fold_few h0 ss _) ?_
    rw [lngL_len, h0]; split <;> omega
theorem fold_more {g : Gram} {n : Int} (h0 : 0 < (inOwn g n).length) : ∀ (ss : List Sym) (acc : List (List Sym × List Int)), acc.length ≤ (ss.foldl (lngL g n) acc).length
  | [], _ => Nat.le_refl _
  | s :: ss, acc => by
    refine Nat.le_trans ?_ (fold_more h0 ss _)
    rw [lngL_len]
    split
    · exact Nat.le_mul_of_pos_left _ h0
    · exact Nat.le_refl _
theorem fold_big {g : Gram} {n : Int} {ss : List Sym} {x : List Sym × List Int} {j : Nat} (h : 32 < ((ss.take j).foldl (lngL g n) [x]).length) : 32 < (ss.foldl (lngL g n) [x]).length := by
  rcases Nat.eq_zero_or_pos (inOwn g n).length with h0 | h0
  · have := fold_few h0 (ss.take j) [x]
    simp only [List.length_singleton] at this; omega
  · have := fold_more h0 (ss.drop j) ((ss.take j).foldl (lngL g n) [x])
    rw [← List.foldl_append, List.take_append_drop] at this
    omega
theorem inlN_step {g : Gram} {n : Int} (i : Nat) : (inlN g n i).length ≤ (inlN g n (i + 1)).length := by simp only [inlN, List.length_append]; omega
theorem inlN_mono {g : Gram} {n : Int} {i k : Nat} (h : i ≤ k) : (inlN g n i).length ≤ (inlN g n k).length := by
  induction h with
  | refl => exact Nat.le_refl _
  | step _ ih => exact Nat.le_trans ih (inlN_step _)
theorem inl_few {g : Gram} {n : Int} (h : InlOk g n) {i : Nat} (hi : i ≤ g.rules.length) : (inlN g n i).length ≤ 32 := by
  have a := h.chk.many
  have b : (inlG g n).rules.length = (inlN g n g.rules.length).length := by simp [inlG, inlP]
  have := inlN_mono (g := g) (n := n) hi
  omega

theorem Exp.len {g : Gram} {n : Int} (hv : Valid g) {ss : List Sym} {cs : List Int} {xs : List Sym} (h : Exp g n ss cs xs) : xs.length ≤ 4 * ss.length ∧ cs.length ≤ ss.length := by
  induction h with
  | nil => simp
  | keep _ _ ih => simp only [List.length_cons]; omega
  | put hc _ ih =>
    obtain ⟨c, rl, rfl, w3, w4⟩ := mem_inOwn.1 hc
    have := (hv.ok rl (List.mem_of_getElem? w3)).2
    rw [rgt_at w3]
    simp only [List.length_cons, List.length_append]; omega

theorem appF {L0 L : GHeap} {so sf : Sl} {rs : List Rule} {fs : List (List Int)} {left : Int} {sq sx : Sl} {ss : List Sym} {x : List Int} {k : Sl → Sl → GHeap → Prop} (ho : Own L0 rRule L so rs) (hf : Own L0 (rS rI) L sf fs) (hsep : Sep so sf) (hle : Le L0 L) (hq : IsSl rSym L sq ss) (hx : IsSl rI L sx x) (hb : rs.length ≤ 1048576) (hb2 : fs.length ≤ 1048576)
    (hk : ∀ so' sf' L', Le L0 L' → LeM L L' → Own L0 rRule L' so' (rs ++ [⟨left, ss⟩]) → Own L0 (rS rI) L' sf' (fs ++ [x]) → Sep so' sf' → k so' sf' L') :
    appendK 2 32 L so 1 [.int .i64 left, .slice sq.a sq.n sq.c] fun s1 L1 => LeM L L1 ∧ appendK 1 24 L1 sf 1 [.slice sx.a sx.n sx.c] fun s2 L2 => k s1 s2 L2 := by
  refine Own.append (R := rRule) (bytes := 32) (m := 1) (ys := [⟨left, ss⟩]) ho hle (Cells.cons (c := [.int .i64 left, .slice sq.a sq.n sq.c]) ⟨sq, rfl, hq⟩ .nil) rfl (.inl (by omega)) fun s1 L1 g1 g2 g3 _ g5 => ⟨g2, ?_⟩
  obtain ⟨f1, f2⟩ := g5 _ _ _ hf hsep
  refine Own.append (R := rS rI) (bytes := 24) (m := 1) (ys := [x]) f1 g1 (Cells.cons (c := [.slice sx.a sx.n sx.c]) ⟨sx, rfl, hx.mono g2⟩ .nil) rfl (.inl (by omega)) fun s2 L2 k1 k2 k3 _ k5 => ?_
  obtain ⟨e1, e2⟩ := k5 _ _ _ g3 f2.symm
  exact hk s1 s2 L2 k1 (g2.trans k2) e1 k3 e2.symm

theorem appendK_mono {size bytes m : Nat} {L : GHeap} {s : Sl} {new : List Value} {k k' : Sl → GHeap → Prop} (h : appendK size bytes L s m new k) (hk : ∀ s' L', k s' L' → k' s' L') : appendK size bytes L s m new k' :=
  ⟨h.1, fun hf => (h.2.1 hf).imp (fun ⟨a, b⟩ => ⟨a, hk _ _ b⟩) fun ⟨a, b, c, d⟩ => ⟨a, b, c, hk _ _ d⟩, fun hg => let ⟨old, a, b⟩ := h.2.2 hg; ⟨old, a, fun x c' h1 h2 => hk _ _ (b x c' h1 h2)⟩⟩

section
variable {g : Gram} {n : Int}
theorem chk_many (hv : Valid g) (h : 32 < (inlP g n).length) : chk (inlG g n) = 2 := by
  have h1 := hv.terms
  have h2 := hv.nons
  have h3 := hv.start
  unfold Go.Proofs.YtjmpheidcofhnaaDoor.chk inlG
  simp only
  rw [if_neg (by omega), if_neg (by omega), if_neg (by omega), if_neg (by omega), if_neg (by omega), if_neg (by omega), if_pos (by rw [List.length_map]; exact h)]

/-- Why a nonterminal is not inlined. -/
def InlE (g : Gram) (n e : Int) : Prop := (e = 7 ∧ n = g.start) ∨ (e = 9 ∧ n ≠ g.start ∧ ∃ i ∈ inOwn g n, (⟨false, n⟩ : Sym) ∈ rgt g i) ∨ (e = Go.Proofs.YtjmpheidcofhnaaDoor.chk (inlG g n) ∧ n ≠ g.start ∧ ∀ i ∈ inOwn g n, (⟨false, n⟩ : Sym) ∉ rgt g i)
theorem InlE.one {a b : Int} (ha : InlE g n a) (hb : InlE g n b) : a = b := by
  rcases ha with ⟨rfl, h1⟩ | ⟨rfl, h1, i, hi, h2⟩ | ⟨rfl, h1, h2⟩ <;> rcases hb with ⟨rfl, k1⟩ | ⟨rfl, k1, j, hj, k2⟩ | ⟨rfl, k1, k2⟩
  all_goals first | rfl | exact absurd h1 k1 | exact absurd k1 h1 | exact absurd h2 (k2 i hi) | exact absurd k2 (h2 j hj)
theorem InlE.no {e : Int} (h : InlE g n e) (h0 : e ≠ 0) : ¬ InlOk g n := fun hok => by
  rcases h with ⟨_, h1⟩ | ⟨_, _, i, hi, h2⟩ | ⟨rfl, _, _⟩
  · exact hok.ns h1
  · exact hok.no i hi h2
  · exact h0 (chk_zero.2 hok.chk)
end

def InlPostE (g : Gram) (n : Int) (L : GHeap) (v : Value) (L' : GHeap) : Prop :=
  Le L L' ∧ ((InlOk g n ∧ ∃ so sf : Sl, v = .tuple #[inV (inlG g n) so sf, .int .i64 0] ∧ IsSl rRule L' so (inlG g n).rules ∧ IsSl (rS rI) L' sf (inlF g n)) ∨
    (∃ e : Int, InlE g n e ∧ e ≠ 0 ∧ v = .tuple #[inV ⟨0, 0, 0, []⟩ ⟨none, 0, 0⟩ ⟨none, 0, 0⟩, .int .i64 e]))

theorem Inline_exact {L : GHeap} {g : Gram} {n : Int} {sg : Sl} (hv : Valid g) (hn : 0 ≤ n ∧ n < g.nons) (hs : IsSl rRule L sg g.rules) : ACalls PP factor_Inline.id [gramV g sg, .int .i64 n] L (InlPostE g n L) := by
  have hmany := hv.many
  have hwe : whereE g n = 0 := by unfold whereE; rw [if_neg (by rw [chk_zero.2 hv]; simp), if_neg (by omega), if_neg (by omega)]
  have hofl : ofL g n = inOwn g n := by unfold ofL inOwn; rw [if_pos hwe]
  have hown : (inOwn g n).length ≤ 32 := Nat.le_trans whereI_length hmany
  apply factor_Inline.go
  refine (Of_spec (n := n) hs).mono ?_
  rintro v Lb ⟨sw, rfl, hleb, hsw⟩
  rw [hofl] at hsw
  have hsg := hs.mono hleb.toLeM
  have hswn := hsw.n
  have err : ∀ (e : Int) (L' : GHeap), InlE g n e → e ≠ 0 → Le Lb L' → InlPostE g n L (.tuple #[inV ⟨0, 0, 0, []⟩ ⟨none, 0, 0⟩ ⟨none, 0, 0⟩, .int .i64 e]) L' := fun e L' hE he hl => ⟨hleb.trans hl, .inr ⟨e, hE, he, rfl⟩⟩
  refine ⟨sw, _, rfl, bcNE (fun h => absurd hwe h) fun _ => bcE (fun hns => err 7 Lb (.inl ⟨rfl, hns⟩) (by omega) (.refl _)) fun hns => ?_⟩
  -- the rules
  have rules : (∀ i ∈ inOwn g n, (⟨false, n⟩ : Sym) ∉ rgt g i) → ∀ i, i ≤ g.rules.length → ∀ (L1 : GHeap) (so sf : Sl), Le Lb L1 → Own Lb rRule L1 so ((inlN g n i).map Prod.fst) → Own Lb (rS rI) L1 sf ((inlN g n i).map Prod.snd) → Sep so sf → (inlN g n i).length ≤ 32 →
      factor_Inline.c14 (InlPostE g n L) n sw sg ((sg.n : Nat) : Int) ((i : Nat) : Int) g.terms g.nons g.start sg 0 0 0 ⟨none, 0, 0⟩ ⟨none, 0, 0⟩ g.terms g.nons g.start so sf L1 := by
    intro hno
    refine down ?_ ?_
    · intro L1 so sf hle ho hf hsep _
      apply factor_Inline.go14
      refine bcD (fun h => absurd h (by rw [hs.n]; omega)) fun _ => ?_
      refine (Check_ro (g := inlG g n) ho.sl).use ⟨_, rfl, bcNE (fun h => err _ L1 (.inr (.inr ⟨rfl, hns, hno⟩)) h hle) fun h => ?_⟩
      exact ⟨hleb.trans hle, .inl ⟨⟨hns, hno, chk_zero.1 h⟩, so, sf, rfl, ho.sl, hf.sl⟩⟩
    · intro i hi ihi L1 so sf hle ho hf hsep hlen
      have hri := List.getElem?_eq_getElem hi
      obtain ⟨hrok, hrl⟩ := hv.ok _ (List.getElem_mem hi)
      have c32 : ∀ (L1 : GHeap) (so sf : Sl), Le Lb L1 → Own Lb rRule L1 so ((inlN g n (i + 1)).map Prod.fst) → Own Lb (rS rI) L1 sf ((inlN g n (i + 1)).map Prod.snd) → Sep so sf → (inlN g n (i + 1)).length ≤ 32 →
          factor_Inline.c32 (InlPostE g n L) n sw sg ((sg.n : Nat) : Int) ((i : Nat) : Int) g.terms g.nons g.start sg 0 0 0 ⟨none, 0, 0⟩ ⟨none, 0, 0⟩ g.terms g.nons g.start so sf L1 := by
        intro L1 so sf a1 a2 a3 a4 a5
        apply factor_Inline.go32
        unfold factor_Inline.t32
        rw [add_one (by omega)]
        exact ihi L1 so sf a1 a2 a3 a4 a5
      apply factor_Inline.go14
      refine bcD (fun _ => ?_) fun h => absurd (by rw [hs.n]; omega) h
      refine (hsg.mono hle.toLeM).get hri fun a cs hK hc => ?_
      obtain ⟨sr, rfl, hsr⟩ := hK
      refine ⟨_, sr, hc, bcE (fun heq => ?_) fun hneq => ?_⟩
      · have e : inlN g n (i + 1) = inlN g n i := by simp only [inlN]; rw [hri]; simp only; rw [if_pos heq, List.append_nil]
        rw [e] at c32
        exact c32 L1 so sf hle ho hf hsep hlen
      · have e : inlN g n (i + 1) = inlN g n i ++ (exps g n g.rules[i] i).map fun x : List Sym × List Int => ((⟨g.rules[i].left, x.1⟩ : Rule), x.2) := by simp only [inlN]; rw [hri]; simp only; rw [if_neg hneq]
        rw [e] at c32
        -- what is put out
        have put : ∀ (k : Nat), k ≤ (exps g n g.rules[i] i).length → ∀ (L2 : GHeap) (so sf sR sF : Sl), Le Lb L2 → (exps g n g.rules[i] i).length ≤ 32 → Own Lb rRule L2 so ((inlN g n i ++ ((exps g n g.rules[i] i).take k).map fun x : List Sym × List Int => ((⟨g.rules[i].left, x.1⟩ : Rule), x.2)).map Prod.fst) → Own Lb (rS rI) L2 sf ((inlN g n i ++ ((exps g n g.rules[i] i).take k).map fun x : List Sym × List Int => ((⟨g.rules[i].left, x.1⟩ : Rule), x.2)).map Prod.snd) → Sep so sf →
            IsSl (rS rSym) L2 sR ((exps g n g.rules[i] i).map Prod.fst) → IsSl (rS rI) L2 sF ((exps g n g.rules[i] i).map Prod.snd) →
            factor_Inline.c26 (InlPostE g n L) n sw sF sg ((sg.n : Nat) : Int) ((i : Nat) : Int) sR ((sR.n : Nat) : Int) ((k : Nat) : Int) g.terms g.nons g.start sg 0 0 0 ⟨none, 0, 0⟩ ⟨none, 0, 0⟩ g.terms g.nons g.start so sf g.rules[i].left sr L2 := by
          refine down ?_ ?_
          · intro L2 so sf sR sF hle2 hel ho2 hf2 hsep2 hR hF
            rw [List.take_length] at ho2 hf2
            have hRn := hR.n
            rw [List.length_map] at hRn
            have hon := ho2.sl.n
            rw [List.length_map] at hon
            apply factor_Inline.go26
            refine bcD (fun h => absurd h (by omega)) fun _ => bcD (fun hbig => err 2 L2 (.inr (.inr ⟨(chk_many hv (by have := inlN_mono (g := g) (n := n) (i := i + 1) (k := g.rules.length) (by omega); rw [e] at this; unfold inlP; omega)).symm, hns, hno⟩)) (by omega) hle2) fun hsmall => ?_
            exact c32 L2 so sf hle2 ho2 hf2 hsep2 (by omega)
          · intro k hk ihk L2 so sf sR sF hle2 hel ho2 hf2 hsep2 hR hF
            have eA : (inlN g n i ++ ((exps g n g.rules[i] i).take (k + 1)).map fun x : List Sym × List Int => ((⟨g.rules[i].left, x.1⟩ : Rule), x.2)) = (inlN g n i ++ ((exps g n g.rules[i] i).take k).map fun x : List Sym × List Int => ((⟨g.rules[i].left, x.1⟩ : Rule), x.2)) ++ [(⟨g.rules[i].left, (exps g n g.rules[i] i)[k].1⟩, (exps g n g.rules[i] i)[k].2)] := by
              rw [List.take_succ_eq_append_getElem hk, List.map_append, ← List.append_assoc]; rfl
            rw [eA] at ihk
            have hRn := hR.n
            rw [List.length_map] at hRn
            have hlk : (inlN g n i ++ ((exps g n g.rules[i] i).take k).map fun x : List Sym × List Int => ((⟨g.rules[i].left, x.1⟩ : Rule), x.2)).length ≤ 64 := by rw [List.length_append, List.length_map, List.length_take]; omega
            apply factor_Inline.go26
            refine bcD (fun _ => ?_) fun h => absurd (by omega) h
            refine hR.get (i := k) (x := (exps g n g.rules[i] i)[k].1) (by rw [List.getElem?_map, List.getElem?_eq_getElem hk]; rfl) fun a2 cs2 hK2 hc2 => ?_
            obtain ⟨s1, rfl, hs1⟩ := hK2
            refine ⟨s1, reads_one hc2, ?_⟩
            refine hF.get (i := k) (x := (exps g n g.rules[i] i)[k].2) (by rw [List.getElem?_map, List.getElem?_eq_getElem hk]; rfl) fun a3 cs3 hK3 hc3 => ?_
            obtain ⟨s2, rfl, hs2⟩ := hK3
            have r2 : L2.mem (a3.add (Int.toNat ((k : Nat) : Int) * 1)) = some (.slice s2.a s2.n s2.c) := reads_one hc3
            have main := appF (L0 := Lb) (left := g.rules[i].left) (k := fun so' sf' L' => factor_Inline.c29 (InlPostE g n L) n sw sF sg ((sg.n : Nat) : Int) ((i : Nat) : Int) sR ((sR.n : Nat) : Int) ((k : Nat) : Int) g.terms g.nons g.start sg 0 0 0 ⟨none, 0, 0⟩ ⟨none, 0, 0⟩ g.terms g.nons g.start so' sf' g.rules[i].left sr L') ho2 hf2 hsep2 hle2 hs1 hs2 (by rw [List.length_map]; omega) (by rw [List.length_map]; omega) fun so' sf' L' h1 h2 h3 h4 h5 => by
              apply factor_Inline.go29
              unfold factor_Inline.t29
              rw [add_one (by omega)]
              exact ihk L' so' sf' sR sF h1 hel (by rw [List.map_append]; exact h3) (by rw [List.map_append]; exact h4) h5 (hR.mono h2) (hF.mono h2)
            have plain := appendK_mono main (k' := fun s1' L1' => appendK 1 24 L1' sf 1 [.slice s2.a s2.n s2.c] fun sf' L' => factor_Inline.c29 (InlPostE g n L) n sw sF sg ((sg.n : Nat) : Int) ((i : Nat) : Int) sR ((sR.n : Nat) : Int) ((k : Nat) : Int) g.terms g.nons g.start sg 0 0 0 ⟨none, 0, 0⟩ ⟨none, 0, 0⟩ g.terms g.nons g.start s1' sf' g.rules[i].left sr L') fun _ _ h => h.2
            have withR := appendK_mono main (k' := fun s1' L1' => ∃ x119 : Sl, L1'.mem (a3.add (Int.toNat ((k : Nat) : Int) * 1)) = some (.slice x119.a x119.n x119.c) ∧ appendK 1 24 L1' sf 1 [.slice x119.a x119.n x119.c] fun sf' L' => factor_Inline.c29 (InlPostE g n L) n sw sF sg ((sg.n : Nat) : Int) ((i : Nat) : Int) sR ((sR.n : Nat) : Int) ((k : Nat) : Int) g.terms g.nons g.start sg 0 0 0 ⟨none, 0, 0⟩ ⟨none, 0, 0⟩ g.terms g.nons g.start s1' sf' g.rules[i].left sr L') fun _ _ h => ⟨s2, h.1.mem _ _ r2, h.2⟩
            exact ⟨⟨withR, ⟨s2, r2, plain, plain⟩⟩, ⟨s2, r2, both plain, plain⟩⟩
        -- the symbols
        have syms : ∀ j, j ≤ g.rules[i].right.length → ∀ (L2 : GHeap) (sR sF : Sl), Le L1 L2 → ((g.rules[i].right.take j).foldl (lngL g n) [([], [(i : Int)])]).length ≤ 32 → IsSl (rS rSym) L2 sR (((g.rules[i].right.take j).foldl (lngL g n) [([], [(i : Int)])]).map Prod.fst) → IsSl (rS rI) L2 sF (((g.rules[i].right.take j).foldl (lngL g n) [([], [(i : Int)])]).map Prod.snd) →
            factor_Inline.c19 (InlPostE g n L) n sw sR sF sg ((sg.n : Nat) : Int) ((i : Nat) : Int) sr ((sr.n : Nat) : Int) ((j : Nat) : Int) g.terms g.nons g.start sg 0 0 0 ⟨none, 0, 0⟩ ⟨none, 0, 0⟩ g.terms g.nons g.start so sf g.rules[i].left sr L2 := by
          refine down ?_ ?_
          · intro L2 sR sF hle2 hel hR hF
            rw [List.take_length] at hel hR hF
            apply factor_Inline.go19
            refine bcD (fun h => absurd h (by rw [hsr.n]; omega)) fun _ => ?_
            have := put 0 (Nat.zero_le _) L2 so sf sR sF (hle.trans hle2) hel (by simpa using ho.mono hle2) (by simpa using hf.mono hle2) hsep hR hF
            exact this
          · intro j hj ihj L2 sR sF hle2 hel hR hF
            rw [List.take_succ_eq_append_getElem hj, List.foldl_append, List.foldl_cons, List.foldl_nil] at ihj
            apply factor_Inline.go19
            refine bcD (fun _ => ?_) fun h => absurd (by rw [hsr.n]; omega) h
            refine (hsr.mono hle2.toLeM).get (List.getElem?_eq_getElem hj) fun a2 cs2 hK2 hc2 => ?_
            obtain rfl := hK2
            refine ⟨_, _, hc2, ?_⟩
            have hleb2 := hle.trans hle2
            refine longer_spec hv (hsg.mono hleb2.toLeM) (hsw.mono hleb2.toLeM) hR hF (by omega) (fun x hx => ?_) fun L3 l m hS => ?_
            · obtain ⟨y, hy, cs', xs', he, rfl⟩ := mem_fold.1 hx
              rw [List.mem_singleton] at hy
              subst hy
              have := he.len hv
              rw [List.length_take] at this
              simp only [List.nil_append, List.length_append, List.length_singleton]; omega
            · have hln := hS.ol.sl.n
              rw [List.length_map] at hln
              refine ⟨l, m, rfl, bcD (fun hbig => err 2 L3 (.inr (.inr ⟨(chk_many hv (by have h1 := inlN_mono (g := g) (n := n) (i := i + 1) (k := g.rules.length) (by omega); rw [e, List.length_append, List.length_map] at h1; have h2 := fold_big (g := g) (n := n) (ss := g.rules[i].right) (x := ([], [(i : Int)])) (j := j + 1) (by rw [List.take_succ_eq_append_getElem hj, List.foldl_append, List.foldl_cons, List.foldl_nil]; omega); unfold exps at h1; unfold inlP; omega)).symm, hns, hno⟩)) (by omega) (hleb2.trans hS.le)) fun hsmall => ?_⟩
              rw [add_one (by omega)]
              exact ihj L3 l m (hle2.trans hS.le) (by omega) hS.ol.sl hS.om.sl
        intro b72 hu72
        refine inLI ?_
        have le72 := Le.alloc hu72 [.slice none 0 0] 1
        have hR0 : IsSl (rS rSym) (L1.alloc b72 [.slice none 0 0] 1) ⟨some ⟨b72, 0, none⟩, 1, 1⟩ [[]] := IsSl.of_cells (cs := [.slice none 0 0]) (Cells.cons (R := rS rSym) (c := [.slice none 0 0]) ⟨⟨none, 0, 0⟩, rfl, .nil _ _ _ _⟩ .nil) rfl (Nat.le_refl _) alloc_reads
        generalize L1.alloc b72 [.slice none 0 0] 1 = La at le72 hR0
        intro b74 hu74
        refine inLI ?_
        have le74 := Le.alloc hu74 [.int .i64 ((i : Nat) : Int)] 1
        have hI0 : IsSl rI (La.alloc b74 [.int .i64 ((i : Nat) : Int)] 1) ⟨some ⟨b74, 0, none⟩, 1, 1⟩ [((i : Nat) : Int)] := IsSl.of_cells (cs := [.int .i64 ((i : Nat) : Int)]) (Cells.cons (c := [.int .i64 ((i : Nat) : Int)]) rfl .nil) rfl (Nat.le_refl _) alloc_reads
        generalize La.alloc b74 [.int .i64 ((i : Nat) : Int)] 1 = Lc at le74 hI0
        intro b75 hu75
        refine inLI ?_
        have le75 := Le.alloc hu75 [.slice (some ⟨b74, 0, none⟩) 1 1] 1
        have hF0 : IsSl (rS rI) (Lc.alloc b75 [.slice (some ⟨b74, 0, none⟩) 1 1] 1) ⟨some ⟨b75, 0, none⟩, 1, 1⟩ [[((i : Nat) : Int)]] := IsSl.of_cells (cs := [.slice (some ⟨b74, 0, none⟩) 1 1]) (Cells.cons (R := rS rI) (c := [.slice (some ⟨b74, 0, none⟩) 1 1]) ⟨⟨some ⟨b74, 0, none⟩, 1, 1⟩, rfl, hI0.mono le75.toLeM⟩ .nil) rfl (Nat.le_refl _) alloc_reads
        generalize Lc.alloc b75 [.slice (some ⟨b74, 0, none⟩) 1 1] 1 = Ld at le75 hF0
        exact syms 0 (Nat.zero_le _) Ld _ _ ((le72.trans le74).trans le75) (by simp) (by simpa using hR0.mono (le74.trans le75).toLeM) (by simpa using hF0)
  -- the nonterminal's rules do not hold it
  have chk : ∀ q, q ≤ (inOwn g n).length → (∀ i ∈ (inOwn g n).take q, (⟨false, n⟩ : Sym) ∉ rgt g i) → factor_Inline.c7 (InlPostE g n L) n sw sw ((sw.n : Nat) : Int) ((q : Nat) : Int) g.terms g.nons g.start sg 0 0 0 ⟨none, 0, 0⟩ ⟨none, 0, 0⟩ Lb := by
    refine down ?_ ?_
    · intro hno
      rw [List.take_length] at hno
      apply factor_Inline.go7
      refine bcD (fun h => absurd h (by omega)) fun _ => ?_
      exact rules hno 0 (Nat.zero_le _) Lb ⟨none, 0, 0⟩ ⟨none, 0, 0⟩ (.refl _) (.nil _ _ _) (.nil _ _ _) (fun h => absurd h (Nat.lt_irrefl 0)) (by simp [inlN])
    · intro q hq ihq hno
      rw [List.take_succ_eq_append_getElem hq] at ihq
      obtain ⟨c, rl, hc, w3, w4⟩ := mem_inOwn.1 (List.getElem_mem hq)
      have hrg : rgt g (inOwn g n)[q] = rl.right := by rw [hc]; exact rgt_at w3
      have hrl := (hv.ok rl (List.mem_of_getElem? w3)).2
      apply factor_Inline.go7
      refine bcD (fun _ => ?_) fun h => absurd (by omega) h
      refine hsw.get (List.getElem?_eq_getElem hq) fun a cs hK hc1 => ?_
      obtain rfl := hK
      refine ⟨_, reads_one hc1, ?_⟩
      refine hsg.getI (by rw [hc]; omega) (x := rl) (by rw [hc, Int.toNat_natCast]; exact w3) fun a2 cs2 hK2 hc2 => ?_
      obtain ⟨s2, rfl, hs2⟩ := hK2
      refine ⟨s2, hc2.2.1, (ContainsSym_ro (y := ⟨false, n⟩) hs2 (by omega)).use ⟨_, rfl, bcI (fun hin => err 9 Lb (.inr (.inl ⟨rfl, hns, _, List.getElem_mem hq, by rw [hrg]; exact of_decide_eq_true hin⟩)) (by omega) (.refl _)) fun hno2 => ?_⟩⟩
      rw [add_one (by omega)]
      refine ihq fun i hi => ?_
      rcases List.mem_append.1 hi with h | h
      · exact hno i h
      · rw [List.mem_singleton] at h; subst h
        rw [hrg]; exact of_decide_eq_false hno2
  exact chk 0 (Nat.zero_le _) fun i hi => by simp at hi

theorem Inline_spec {L : GHeap} {g : Gram} {n : Int} {sg : Sl} (hv : Valid g) (hn : 0 ≤ n ∧ n < g.nons) (hs : IsSl rRule L sg g.rules) : ACalls PP factor_Inline.id [gramV g sg, .int .i64 n] L (InlPost g n L) :=
  (Inline_exact hv hn hs).mono fun _ _ ⟨h1, h2⟩ => ⟨h1, h2.imp id fun ⟨e, h3, h4, h5⟩ => ⟨h3.no h4, e, h4, h5⟩⟩

theorem Inline_bad {L : GHeap} {g : Gram} {n : Int} {sg : Sl} (hs : IsSl rRule L sg g.rules) (h : whereE g n ≠ 0) : ACalls PP factor_Inline.id [gramV g sg, .int .i64 n] L fun v L' => v = .tuple #[inV ⟨0, 0, 0, []⟩ ⟨none, 0, 0⟩ ⟨none, 0, 0⟩, .int .i64 (whereE g n)] ∧ Le L L' := by
  apply factor_Inline.go
  refine (Of_spec (n := n) hs).mono ?_
  rintro v Lb ⟨sw, rfl, hleb, _⟩
  exact ⟨sw, _, rfl, bcNE (fun _ => ⟨rfl, hleb⟩) fun h' => absurd h' h⟩
end Go.Proofs.YtjmpheidcofhnaaDoor
