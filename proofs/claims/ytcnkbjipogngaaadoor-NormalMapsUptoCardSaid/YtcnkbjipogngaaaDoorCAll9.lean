/- Contracts of the program's functions. -/
import Derived.Test.YtcnkbjipogngaaaDoorVAll1
import Derived.Test.YtcnkbjipogngaaaDoorCAll8
import Derived.Test.YtcnkbjipogngaaaDoorLibD
import Derived.Test.YtcnkbjipogngaaaDoorCAll7
set_option linter.all false
namespace Go.Proofs.YtcnkbjipogngaaaDoor.NormS
open Go Go.Proofs.YtcnkbjipogngaaaDoor.GH NormT

variable {g : Gram}

theorem RestOf_ro (hv : Valid g) {L : GHeap} {sg : Sl} (hs : IsSl rRule L sg g.rules) {i k : Nat} (hi : i ≤ g.rules.length) (hk : 1 ≤ k) (hk4 : k ≤ 10) : RO PP parlref2_RestOf.id [gramV g sg, .int .i64 (i : Int), .int .i64 (k : Int)] L (.int .i64 (rsN g i k)) := by
  have hsn := hs.n
  have hsc := hs.c
  have hno := hv.nons
  have hmany := hv.many
  have he := fun j => extS_le hv j
  apply parlref2_RestOf.go
  refine ⟨⟨by omega, by omega⟩, ?_⟩
  have loop : ∀ j, j ≤ i → parlref2_RestOf.c3 (fun v L' => v = .int .i64 (rsN g i k) ∧ L' = L) (g.nons + ((k - 1 : Nat) : Int) + (extS (g.rules.take j) : Nat)) ⟨sg.a, Int.toNat (i : Int), sg.c⟩ ((Int.toNat (i : Int) : Nat) : Int) ((j : Nat) : Int) L := by
    refine down ?_ ?_
    · apply parlref2_RestOf.go3
      refine bcD (fun h => absurd h (by omega)) fun _ => ⟨?_, rfl⟩
      unfold rsN
      congr 1
      omega
    · intro j hj ih
      have hx := List.getElem?_eq_getElem (show j < g.rules.length by omega)
      have hr := (hv.ok _ (List.getElem_mem (show j < g.rules.length by omega))).2
      have hej := he j
      have hej' := he (j + 1)
      rw [extS_take (show j < g.rules.length by omega)] at ih hej'
      generalize g.rules[j]'(by omega) = r at *
      apply parlref2_RestOf.go3
      refine bcD (fun _ => ?_) fun h => absurd (by omega) h
      obtain ⟨a, cs, ha, hK, hc⟩ := hs.at_ j r hx
      obtain ⟨st, rfl, hst⟩ := hK
      have hstn := hst.n
      show ptrK sg.a _
      rw [ha] at ih ⊢
      refine ⟨⟨by omega, by show (j : Int) < (((i : Int).toNat : Nat) : Int); omega⟩, _, st, hc, ?_⟩
      have e : mnx .max (0 : Int) (w64 (((st.n : Nat) : Int) - 2)) = ((exR r : Nat) : Int) := by
        rw [w64_in (by omega) (by omega)]
        unfold mnx exR
        simp only
        split <;> omega
      rw [e, add_one (by omega), w64_in (by omega) (by omega)]
      have e2 : g.nons + ((k - 1 : Nat) : Int) + (extS (g.rules.take j) : Nat) + ((exR r : Nat) : Int) = g.nons + ((k - 1 : Nat) : Int) + ((extS (g.rules.take j) + exR r : Nat) : Int) := by omega
      rw [e2]
      exact ih
  have h0 := loop 0 (Nat.zero_le _)
  have e0 : g.nons + ((k - 1 : Nat) : Int) + ((extS (g.rules.take 0) : Nat) : Int) = w64 (w64 (g.nons + (k : Int)) - 1) := by
    rw [w64_in (x := g.nons + (k : Int)) (by omega) (by omega), w64_in (by omega) (by omega)]
    simp [extS]; omega
  rw [e0] at h0
  exact h0

theorem dnK_lf {i : Nat} {a b : Int} : ∀ (ts : List Tree) (k : Nat), 1 ≤ k → dnK g i a k ts = dnK g i b k ts
  | [], _, _ => rfl
  | t :: ts, k, hk => by
    simp only [dnK]
    by_cases h : ts.length > 0
    · rw [if_pos ⟨by omega, h⟩, if_pos ⟨by omega, h⟩, dnK_lf ts (k + 1) (by omega)]
    · have : ts = [] := List.eq_nil_of_length_eq_zero (by omega)
      subst this
      rw [show decide (k = 0 ∨ ([] : List Tree).length > 0) = false from decide_eq_false (by simp; omega)]
      simp only [dnK]
      rw [stepD_last, stepD_last]

theorem OT.setN {L : GHeap} {o : Option Tree} {x : Tree} {sx : Sl} {m : Int} (h : OT L o x sx) (c : Bool) (hc : c = true) : OT L (stepD m c o none) (NormT.setN m x) sx := by
  subst hc
  refine ⟨h.1, fun y hy => ?_⟩
  cases o with
  | none => cases hy
  | some z =>
    injection hy with hy
    rw [← hy, h.2 z rfl]; rfl

theorem BinOf_spec (hv : Valid g) : ∀ (t : Tree) (y : Sym) {L : GHeap} {sg s : Sl}, WT g y t → SymOk g.terms g.nons y → IsSl rRule L sg g.rules → IsSl rTree L s t.kids → ACalls PP parlref2_BinOf.id [gramV g sg, .int .i64 (nT g), treeV t s] L (DnPost L (dn g t)) := by
  refine Tree.ind fun r a ks ih y L sg s hw hy hsg hs => ?_
  replace hs : IsSl rTree L s ks := hs
  have hN := nN_le hv
  apply parlref2_BinOf.go
  simp only [WT] at hw
  rcases hw with ⟨h1, rfl, rfl, rfl⟩ | ⟨h1, rfl, h2, rl, hrl, h3, hks⟩
  · refine bcD (fun _ => ?_) fun h => absurd (show (-1 : Int) < 0 by decide) h
    have ht := hv.terms
    have hb := hy.2.1 h1
    have h0 := hy.1
    have e : w64 (nT g + y.n) = nT g + y.n := w64_in (by omega) (by omega)
    have ed : dn g (.mk (-1) y.n []) = some (.mk (nT g + y.n) y.n []) := by simp only [dn]; rw [if_pos (by decide)]
    rw [ed]
    refine ⟨.refl L, .mk (nT g + y.n) y.n [], ⟨none, 0, 0⟩, ?_, .nil _ _ _ _, fun z hz => by injection hz with hz; exact hz.symm⟩
    show Value.tuple #[.agg #[.int .i64 (w64 (nT g + y.n)), .int .i64 y.n, .slice none 0 0], .bool true] = _
    rw [e]; rfl
  obtain ⟨i, rfl⟩ := Int.eq_ofNat_of_zero_le h2
  refine bcD (fun h => absurd h (by simp only [Tree.rule]; omega)) fun _ => ?_
  rw [Int.toNat_natCast] at hrl
  have hi : i < g.rules.length := (List.getElem?_eq_some_iff.1 hrl).1
  have hri : g.rules[i] = rl := (List.getElem?_eq_some_iff.1 hrl).2
  subst hri
  have hok := hv.ok _ (List.getElem_mem hi)
  have hl := hks.length
  have hl4 := hok.2
  have hsn := hs.n
  have hed : dn g (.mk (i : Int) 0 ks) = dnK g i g.rules[i].left 0 ks := by
    simp only [dn]
    rw [if_neg (by omega), Int.toNat_natCast, List.getD_eq_getElem?_getD, List.getElem?_eq_getElem hi, Option.getD_some]
  rw [hed]
  -- from a kid on
  have key : ∀ d k, k + d = ks.length → ∀ (L1 : GHeap) (non : Int), LeM L L1 → (k = 0 ∨ ks.length ≤ k + 1 ∨ non = rsN g i k) →
      ACalls PP parlref2_binFrom.id [gramV g sg, .int .i64 (nT g), treeV (.mk (i : Int) 0 ks) s, .int .i64 ((k : Nat) : Int), .int .i64 non] L1 (DnPost L1 (dnK g i non k (ks.drop k))) := by
    intro d
    induction d with
    | zero =>
      intro k hkd L1 non hle hnon
      have e : ks.drop k = [] := List.drop_eq_nil_of_le (by omega)
      rw [e]
      apply parlref2_binFrom.go
      exact bcE (fun _ => ⟨.refl _, .mk 0 0 [], ⟨none, 0, 0⟩, rfl, .nil _ _ _ _, fun z hz => by simp only [dnK] at hz; cases hz⟩) fun h => absurd (show (k : Int) = ((s.n : Nat) : Int) by omega) h
    | succ d ihd =>
      intro k hkd L1 non hle hnon
      have hk : k < ks.length := by omega
      have hx := List.getElem?_eq_getElem hk
      obtain ⟨yk, hyk, hwk⟩ := wts_get hks hk
      have hyo := hok.1.right _ (List.mem_of_getElem? hyk)
      have ihk := fun {L : GHeap} {s : Sl} => ih _ (List.getElem_mem hk) yk (L := L) (sg := sg) (s := s) hwk hyo
      have ed : ks.drop k = ks[k] :: ks.drop (k + 1) := List.drop_eq_getElem_cons hk
      rw [ed]
      have hlen : (ks.drop (k + 1)).length = ks.length - (k + 1) := List.length_drop ..
      generalize ks[k] = tk at *
      generalize htl : ks.drop (k + 1) = tl at *
      have ew : w64 (((s.n : Nat) : Int) - 1) = ((ks.length - 1 : Nat) : Int) := by rw [hsn, w64_in (by omega) (by omega)]; omega
      have ek : w64 (((k : Nat) : Int) + 1) = ((k + 1 : Nat) : Int) := add_one (by omega)
      apply parlref2_binFrom.go
      refine bcE (fun h => absurd (show ((k : Nat) : Int) = ((s.n : Nat) : Int) from h) (by omega)) fun _ => ?_
      refine (hs.mono hle).get hx fun a1 cs1 hK1 hc1 => ?_
      obtain ⟨sk, rfl, hsk⟩ := TK.open hK1
      have leaf : ACalls PP parlref2_BinOf.id [gramV g sg, .int .i64 (nT g), treeV tk sk] L1 fun v L' => ∃ x33a_0 : Int, ∃ x33a_1 : Int, ∃ x33a_2 : Sl, ∃ x33b : Bool, v = .tuple #[.agg #[.int .i64 x33a_0, .int .i64 x33a_1, .slice x33a_2.a x33a_2.n x33a_2.c], .bool x33b] ∧
          parlref2_binFrom.c5 (DnPost L1 (dnK g i non k (tk :: tl))) (nT g) ((k : Nat) : Int) non ((s.n : Nat) : Int) x33b g.terms g.nons g.start sg (i : Int) 0 s 0 0 ⟨none, 0, 0⟩ x33a_0 x33a_1 x33a_2 L' := by
        refine (ihk (hsg.mono hle) hsk).mono ?_
        rintro v L2 ⟨hle2, x, sx, rfl, hx⟩
        refine ⟨_, _, sx, _, rfl, ?_⟩
        have hle02 := hle.trans hle2.toLeM
        have fin : ∀ (L3 : GHeap) (z : Tree) (sz : Sl) (w : Bool), Le L2 L3 → OT L3 (dnK g i non k (tk :: tl)) z sz → w = (dnK g i non k (tk :: tl)).isSome → DnPost L1 (dnK g i non k (tk :: tl)) (.tuple #[.agg #[.int .i64 z.rule, .int .i64 z.term, .slice sz.a sz.n sz.c], .bool w]) L3 :=
          fun L3 z sz w hl ho hw => ⟨hle2.trans hl, z, sz, by rw [hw]; rfl, ho⟩
        apply parlref2_binFrom.go5
        unfold parlref2_binFrom.t5
        rw [ew]
        refine bcE (fun hlast => ?_) fun hlast => ?_
        · -- the last kid
          have hd0 : tl = [] := List.eq_nil_of_length_eq_zero (by omega)
          subst hd0
          have eo : dnK g i non k [tk] = stepD (if k > 0 ∧ ([] : List Tree).length > 0 then rsN g i k else non) (decide (k = 0 ∨ ([] : List Tree).length > 0)) (dn g tk) none := by simp only [dnK]
          apply parlref2_binFrom.go6
          refine bcE (fun hk0 => ?_) fun hk0 => ?_
          · have hk0 : k = 0 := by omega
            have eo' : dnK g i non k [tk] = stepD non true (dn g tk) none := by
              rw [eo, if_neg (by omega), show decide (k = 0 ∨ ([] : List Tree).length > 0) = true from decide_eq_true (.inl hk0)]
            apply parlref2_binFrom.go7
            apply parlref2_binFrom.go8
            refine fin L2 (NormT.setN non x) sx _ (.refl _) (by rw [eo']; exact OT.setN hx true rfl) ?_
            rw [eo']; cases dn g tk <;> rfl
          · have eo' : dnK g i non k [tk] = dn g tk := by
              rw [eo, show decide (k = 0 ∨ ([] : List Tree).length > 0) = false from decide_eq_false (by simp; omega), stepD_last]
            apply parlref2_binFrom.go8
            exact fin L2 x sx _ (.refl _) (by rw [eo']; exact hx) (by rw [eo'])
        · -- more kids
          have hpos : tl.length > 0 := by omega
          have hm : (if k > 0 ∧ tl.length > 0 then rsN g i k else non) = non := by
            by_cases h0 : k = 0
            · rw [if_neg (by omega)]
            · rw [if_pos ⟨by omega, hpos⟩]
              rcases hnon with h | h | h
              · exact absurd h h0
              · omega
              · exact h.symm
          have eo : dnK g i non k (tk :: tl) = stepD non true (dn g tk) (dnK g i non (k + 1) tl) := by
            simp only [dnK]
            rw [hm, show decide (k = 0 ∨ tl.length > 0) = true from decide_eq_true (.inr hpos)]
          have more : ∀ next : Int, (k + 1 = 0 ∨ ks.length ≤ k + 1 + 1 ∨ next = rsN g i (k + 1)) → parlref2_binFrom.c12 (DnPost L1 (dnK g i non k (tk :: tl))) (nT g) ((k : Nat) : Int) non (dn g tk).isSome next g.terms g.nons g.start sg (i : Int) 0 s 0 0 ⟨none, 0, 0⟩ x.rule x.term sx L2 := by
            intro next hnx
            apply parlref2_binFrom.go12
            unfold parlref2_binFrom.t12
            rw [ek]
            refine (ihd (k + 1) (by omega) L2 next hle02 hnx).mono ?_
            rw [htl, dnK_lf (b := non) tl (k + 1) (by omega)]
            rintro v L3 ⟨hle3, z, sz, rfl, hz⟩
            refine ⟨_, _, sz, _, rfl, ?_⟩
            have hx3 : OT L3 (dn g tk) x sx := ⟨hx.1.mono hle3.toLeM, hx.2⟩
            apply parlref2_binFrom.go13
            generalize dnK g i non (k + 1) tl = o2 at *
            generalize dn g tk = o1 at *
            cases o1 with
            | none =>
              refine bcF rfl ?_
              apply parlref2_binFrom.go15
              cases o2 with
              | none =>
                refine bcF rfl ?_
                apply parlref2_binFrom.go17
                apply parlref2_binFrom.go18
                refine bcF rfl (fin L3 (NormT.setN non x) sx _ hle3 ?_ (by rw [eo]; rfl))
                rw [eo]; exact ⟨hx3.1, fun y hy => by cases hy⟩
              | some w =>
                refine bcT rfl ?_
                apply parlref2_binFrom.go16
                apply parlref2_binFrom.go17
                apply parlref2_binFrom.go18
                refine bcF rfl (fin L3 (NormT.setN non z) sz _ hle3 ?_ (by rw [eo]; rfl))
                rw [eo]
                refine ⟨hz.1, fun y hy => ?_⟩
                injection hy with hy
                rw [← hy, hz.2 w rfl]; rfl
            | some u =>
              refine bcT rfl ?_
              have hu := hx3.2 u rfl
              cases o2 with
              | none =>
                refine bcF rfl ?_
                apply parlref2_binFrom.go15
                refine bcF rfl ?_
                apply parlref2_binFrom.go17
                apply parlref2_binFrom.go18
                refine bcT rfl (fin L3 (NormT.setN non x) sx _ hle3 ?_ (by rw [eo]; rfl))
                rw [eo]
                refine ⟨hx3.1, fun y hy => ?_⟩
                injection hy with hy
                rw [← hy, hu]; rfl
              | some w =>
                refine bcT rfl ?_
                have hw' := hz.2 w rfl
                apply parlref2_binFrom.go14
                intro c hc
                refine inLI ?_
                have l := Le.alloc hc [.int .i64 x.rule, .int .i64 x.term, .slice sx.a sx.n sx.c, .int .i64 z.rule, .int .i64 z.term, .slice sz.a sz.n sz.c] 6
                refine fin _ (.mk non 0 [x, z]) ⟨some ⟨c, 0, none⟩, 2, 2⟩ _ (hle3.trans l) ?_ (by rw [eo]; rfl)
                rw [eo]
                refine ⟨two_trees (.refl _) (hx3.1.mono l.toLeM) (hz.1.mono l.toLeM), fun y hy => ?_⟩
                injection hy with hy
                rw [← hy, hu, hw']
          apply parlref2_binFrom.go9
          apply parlref2_binFrom.go10
          unfold parlref2_binFrom.t10
          rw [ek, ew]
          refine bcD (fun hlt => ?_) fun hlt => more 0 (.inr (.inl (by omega)))
          apply parlref2_binFrom.go11
          unfold parlref2_binFrom.t11
          rw [ek]
          exact (RestOf_ro hv (hsg.mono hle02) (Nat.le_of_lt hi) (by omega) (by omega)).use ⟨_, rfl, more _ (.inr (.inr rfl))⟩
      exact ⟨⟨_, _, sk, hc1, leaf, leaf⟩, _, _, sk, hc1, leaf⟩
  have hx := List.getElem?_eq_getElem hi
  refine hsg.get hx fun a1 cs1 hK1 hc1 => ?_
  obtain ⟨sr, rfl, _⟩ := hK1
  have r1 := hc1.1
  rw [add_zero] at r1
  refine ⟨_, r1, (key ks.length 0 (by omega) L g.rules[i].left (.refl _) (.inl rfl)).mono ?_⟩
  rintro v L2 ⟨hle2, x, sx, rfl, hx⟩
  exact ⟨_, _, sx, _, rfl, hle2, x, sx, rfl, hx⟩
end Go.Proofs.YtcnkbjipogngaaaDoor.NormS

namespace Go.Proofs.YtcnkbjipogngaaaDoor.NormS
open Go Go.Proofs.YtcnkbjipogngaaaDoor.GH

def tosG (bs : List Bs) (m : Int) : List (List Int) := (bs.filter fun x => x.1 == m).map (·.2)
theorem tosG_snoc {bs : List Bs} {x : Bs} {m : Int} : tosG (bs ++ [x]) m = if x.1 = m then tosG bs m ++ [x.2] else tosG bs m := by
  unfold tosG
  rw [List.filter_append, List.map_append]
  by_cases h : x.1 = m
  · rw [if_pos h]; simp [h]
  · rw [if_neg h]; simp [h]
theorem tosG_mem {bs : List Bs} {m : Int} {r : List Int} : r ∈ tosG bs m ↔ (m, r) ∈ bs := by
  unfold tosG
  rw [List.mem_map]
  constructor
  · rintro ⟨x, hx, rfl⟩
    obtain ⟨h1, h2⟩ := List.mem_filter.1 hx
    have : x.1 = m := by simpa using h2
    rw [← this]; exact h1
  · exact fun h => ⟨(m, r), List.mem_filter.2 ⟨h, by simp⟩, rfl⟩
theorem tosG_len {bs : List Bs} {m : Int} : (tosG bs m).length ≤ bs.length := by
  unfold tosG
  rw [List.length_map]
  exact List.length_filter_le _ _

structure TR (L0 H : GHeap) (ss : List Sl) (bs : List Bs) : Prop where
  own : ∀ (m : Nat) (s : Sl), ss[m]? = some s → Own L0 (rS rI) H s (tosG bs m)
  sep : ∀ (m m' : Nat) (s s' : Sl), m ≠ m' → ss[m]? = some s → ss[m']? = some s' → Sep s s'

theorem TR.nil {L0 H : GHeap} (n : Nat) : TR L0 H (List.replicate n ⟨none, 0, 0⟩) [] := by
  have key : ∀ {m : Nat} {s : Sl}, (List.replicate n (⟨none, 0, 0⟩ : Sl))[m]? = some s → s = ⟨none, 0, 0⟩ := by
    intro m s h
    rw [List.getElem?_replicate] at h
    split at h
    · exact (Option.some.inj h).symm
    · cases h
  refine ⟨fun m s h => ?_, fun m m' s s' _ h _ => ?_⟩
  · rw [key h]
    exact .nil _ _ _
  · rw [key h]
    exact fun h => absurd h (Nat.lt_irrefl 0)

theorem TR.up {L0 H H' : GHeap} {ss : List Sl} {bs : List Bs} (h : TR L0 H ss bs) (hl : Le H H') : TR L0 H' ss bs := ⟨fun m s hs => (h.own m s hs).mono hl, h.sep⟩

theorem add_to {L0 L : GHeap} {V : PVs} {bT : Nat} {ss : List Sl} {bs : List Bs} (h : PM L0 L V) (hb : V bT = some (ss.map fSl)) (hT : TR L0 (L.off (inV V)) ss bs) (hbl : bs.length ≤ 1048576) {m : Nat} {s : Sl} (hm : ss[m]? = some s) {sp : Sl} {r : List Int} (hsp : IsSl rI (L.off (inV V)) sp r) {k : GHeap → Prop} {N : Nat} (hN : ss.length = N)
    (hk : ∀ (L' : GHeap) (s' : Sl), PM L0 L' (putV V bT ((ss.set m s').map fSl)) → LeM (L.off (inV V)) (L'.off (inV V)) → TR L0 (L'.off (inV V)) (ss.set m s') (bs ++ [((m : Int), r)]) → k L') :
    appendK 1 24 L s 1 [.slice sp.a sp.n sp.c] fun x LL => Keep L LL ∧ inL LL fun LL => ptrK (some (⟨bT, 0, none⟩ : Addr)) fun x151 => (0 ≤ (m : Int) ∧ (m : Int) < ((N : Nat) : Int)) ∧ LL.may (x151.add (Int.toNat (m : Int) * 1)) 0 1 ∧ inL (LL.sets (x151.add (Int.toNat (m : Int) * 1)) 0 [.slice x.a x.n x.c]) k := by
  have hml := (List.getElem?_eq_some_iff.1 hm).1
  have ho := hT.own m s hm
  have hcells : Cells (rS rI) (L.off (inV V)) [.slice sp.a sp.n sp.c] [r] := Cells.cons (R := rS rI) (c := [.slice sp.a sp.n sp.c]) ⟨sp, rfl, hsp⟩ .nil
  have hlen := tosG_len (bs := bs) (m := (m : Int))
  refine h.app (R := rS rI) (bytes := 24) (m := 1) ho hcells rfl (by omega) fun s' L' g1 g2 g3 g4 g5 => ⟨g3, ?_⟩
  refine ⟨⟨by omega, by omega⟩, ?_⟩
  rw [Int.toNat_natCast, Nat.mul_one]
  have hll : m < (ss.map fSl).length := by rw [List.length_map]; exact hml
  obtain ⟨k1, k2, k3⟩ := g1.set hb hll (.slice s'.a s'.n s'.c)
  refine ⟨k1, hk _ s' ?_ ?_ ?_⟩
  · have e : (ss.set m s').map fSl = (ss.map fSl).set m (.slice s'.a s'.n s'.c) := by rw [List.map_set]
    rw [e]; exact k2
  · rw [k3]; exact g2
  · rw [k3]
    refine ⟨fun j t ht => ?_, fun j j' t t' hne ht ht' => ?_⟩
    · rw [tosG_snoc]
      rw [List.getElem?_set] at ht
      by_cases e : m = j
      · subst e
        rw [if_pos rfl, if_pos hml] at ht
        injection ht with ht
        subst ht
        rw [if_pos rfl]; exact g4
      · rw [if_neg e] at ht
        rw [if_neg (by simp only; omega)]
        exact (g5 _ _ _ (hT.own j t ht) (hT.sep m j s t e hm ht)).1
    · rw [List.getElem?_set] at ht ht'
      by_cases e : m = j
      · subst e
        rw [if_pos rfl, if_pos hml] at ht
        injection ht with ht
        subst ht
        rw [if_neg hne] at ht'
        exact (g5 _ _ _ (hT.own j' t' ht') (hT.sep m j' s t' hne hm ht')).2
      · rw [if_neg e] at ht
        by_cases e' : m = j'
        · subst e'
          rw [if_pos rfl, if_pos hml] at ht'
          injection ht' with ht'
          subst ht'
          exact (g5 _ _ _ (hT.own j t ht) (hT.sep m j s t e hm ht)).2.symm
        · rw [if_neg e'] at ht'
          exact hT.sep j j' t t' hne ht ht'
end Go.Proofs.YtcnkbjipogngaaaDoor.NormS

