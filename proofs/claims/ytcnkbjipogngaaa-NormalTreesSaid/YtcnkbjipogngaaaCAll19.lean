/- Contracts of the program's functions. -/
import Derived.Test.YtcnkbjipogngaaaCAll16
import Derived.Test.YtcnkbjipogngaaaCAll17
import Derived.Test.YtcnkbjipogngaaaCAll18
import Derived.Test.YtcnkbjipogngaaaCAll0
set_option linter.all false
namespace Go.Proofs.Ytcnkbjipogngaaa.NormC
open Go Go.Proofs.Ytcnkbjipogngaaa.GH

theorem ro_of_le {f : FuncId} {args : List Value} {L : GHeap} {v : Value} (h : ACalls PP f args L fun u L' => u = v ∧ Le L L') : RO PP f args L v :=
  h.wk fun _ _ ⟨e, hl⟩ => ⟨L, ⟨hl.mem, hl.wr, hl.obj, hl.w0.symm, hl.n0.symm⟩, e, rfl⟩

def orI (x y : Int) : Int := if x ≠ 0 then x else y
theorem Or_ro {L : GHeap} {s : Sl} {x y : Int} (hs : IsSl rI L s [x, y]) : RO PP cmp_Or_int.id [.slice s.a s.n s.c] L (.int .i64 (orI x y)) := by
  have hn : s.n = 2 := hs.n
  apply cmp_Or_int.go
  unfold cmp_Or_int.t
  apply cmp_Or_int.go3
  refine bcD (fun _ => ?_) fun h => absurd (by rw [hn]; decide) h
  refine hs.get (i := 0) (x := x) rfl fun a cs hK hc => ?_
  obtain rfl := hK
  refine ⟨_, reads_one hc, bcNE (fun h => ⟨by unfold orI; rw [if_pos h], rfl⟩) fun h => ?_⟩
  have e1 : w64 (0 + 1) = ((1 : Nat) : Int) := by decide
  rw [e1]
  apply cmp_Or_int.go3
  refine bcD (fun _ => ?_) fun h => absurd (by rw [hn]; decide) h
  refine hs.get (i := 1) (x := y) rfl fun a cs hK hc => ?_
  obtain rfl := hK
  refine ⟨_, reads_one hc, bcNE (fun h' => ⟨by unfold orI; rw [if_neg (by simpa using h)], rfl⟩) fun h' => ?_⟩
  have e2 : w64 (((1 : Nat) : Int) + 1) = ((2 : Nat) : Int) := by decide
  rw [e2]
  apply cmp_Or_int.go3
  refine bcD (fun h => absurd h (by rw [hn]; decide)) fun _ => ⟨?_, rfl⟩
  unfold orI; rw [if_neg (by simpa using h), h']

def cmpPr (x y : Pr) : Int := orI (cmpI x.2.1 y.2.1) (cmpI x.2.2 y.2.2)
theorem cmpPr_ro {L : GHeap} (x y : Pr) : RO PP normal_Of_1.id ([.agg #[.int .i64 x.1, .int .i64 x.2.1, .int .i64 x.2.2], .agg #[.int .i64 y.1, .int .i64 y.2.1, .int .i64 y.2.2]] ++ []) L (.int .i64 (cmpPr x y)) := by
  apply ro_of_le
  apply normal_Of_1.go
  refine (Compare_ro _ _ _).use ⟨_, rfl, (Compare_ro _ _ _).use ⟨_, rfl, ?_⟩⟩
  intro b15 hu
  refine inL_i ?_
  have hsl : IsSl rI (L.alloc b15 [.int .i64 (cmpI x.2.1 y.2.1), .int .i64 (cmpI x.2.2 y.2.2)] 2) ⟨some ⟨b15, 0, none⟩, 2, 2⟩ [cmpI x.2.1 y.2.1, cmpI x.2.2 y.2.2] :=
    IsSl.of_cells (cs := [.int .i64 (cmpI x.2.1 y.2.1), .int .i64 (cmpI x.2.2 y.2.2)]) (Cells.cons (R := rI) (c := [.int .i64 (cmpI x.2.1 y.2.1)]) rfl (Cells.cons (R := rI) (c := [.int .i64 (cmpI x.2.2 y.2.2)]) rfl .nil)) rfl (Nat.le_refl _) alloc_reads
  exact (Or_ro hsl).use ⟨_, rfl, rfl, .alloc hu _ _⟩

theorem to_cmp2 : TO fun x y : Int × Int => orI (cmpI x.1 y.1) (cmpI x.2 y.2) where
  eq x y := by
    obtain ⟨a, b⟩ := x; obtain ⟨a', b'⟩ := y
    have h1 := to_cmpI.eq a a'
    have h2 := to_cmpI.eq b b'
    simp only [orI, Prod.mk.injEq]
    split
    · rename_i h; exact ⟨fun e => absurd e h, fun e => absurd (h1.2 e.1) h⟩
    · rename_i h
      have h : cmpI a a' = 0 := by simpa using h
      exact ⟨fun e => ⟨h1.1 h, h2.1 e⟩, fun e => h2.2 e.2⟩
  anti x y := by
    have h1 := to_cmpI.anti x.1 y.1
    have h2 := to_cmpI.anti y.1 x.1
    have h3 := to_cmpI.anti x.2 y.2
    simp only [orI]
    split <;> split <;> omega
  trans x y z := by
    have h1 := to_cmpI.trans x.1 y.1 z.1
    have h2 := to_cmpI.trans x.2 y.2 z.2
    have e1 := to_cmpI.eq x.1 y.1
    have e2 := to_cmpI.eq y.1 z.1
    have e3 := to_cmpI.eq x.1 z.1
    simp only [orI]
    intro g1 g2
    by_cases c1 : cmpI x.1 y.1 = 0
    · rw [if_neg (by simpa using c1)] at g1
      rw [e1.1 c1]
      by_cases c2 : cmpI y.1 z.1 = 0
      · rw [if_neg (by simpa using c2)] at g2
        rw [if_neg (by simpa using c2)]
        exact h2 g1 g2
      · rw [if_pos c2] at g2 ⊢; exact g2
    · rw [if_pos c1] at g1
      by_cases c2 : cmpI y.1 z.1 = 0
      · rw [← e2.1 c2, if_pos c1]; exact g1
      · rw [if_pos c2] at g2
        have := h1 g1 g2
        rw [if_pos (by omega)]; exact this

theorem swo_Pr : Go.Sort.SWO (ltC cmpPr) := to_cmp2.swo (fun x : Pr => x.2)
def ltPr (x y : Pr) : Prop := cmpPr x y < 0
theorem ltPr_trans (x y z : Pr) (h1 : ltPr x y) (h2 : ltPr y z) : ltPr x z := to_cmp2.trans _ _ _ h1 h2

/-- Sorted, and each once. -/
theorem sortPr {L0 L : GHeap} {M : Nat → Prop} {s : Sl} {xs : List Pr} {n : Int} (h : PG (cSP id) 3 L0 L M s xs) (hx : ∀ x ∈ xs, x.1 = n) (hb : xs.length ≤ 1048576) {K : Sl → GHeap → Prop}
    (hK : ∀ (s' : Sl) (L' : GHeap) (ys : List Pr), IsSl rPr L' s' ys → ys.Pairwise ltPr → (∀ y, y ∈ ys ↔ y ∈ xs) → ys.length ≤ xs.length → Live M L' → L'.off M = L.off M → K s' L') :
    ACalls PP slices_SortFunc_normal_Pair_normal_Pair.id [.slice s.a s.n s.c, .func (.func normal_Of_1.id) #[] #[]] L fun v L' => v = .tuple #[] ∧
      ACalls PP slices_Compact_normal_Pair_normal_Pair.id [.slice s.a s.n s.c] L' fun v L' => ∃ s' : Sl, v = .slice s'.a s'.n s'.c ∧ K s' L' := by
  have hd : SP (id : Pr → Pr) L0 (L.off M) M s L xs.toArray := ⟨by simpa using h, rfl⟩
  have hsz : xs.toArray.size = xs.length := by simp
  refine (SortP.SortFunc_spec (vl := (id : Pr → Pr)) (f := normal_Of_1.id) (cap := []) (c := cmpPr) (fun x y => cmpPr_ro x y) swo_Pr hd (by rw [hsz]; exact hb)).mono ?_
  rintro v L1 ⟨rfl, d', h1, hp, hs⟩
  refine ⟨rfl, ?_⟩
  have hperm := permIn_whole hp
  have hsd : d'.size = xs.toArray.size := by have := hperm.length_eq; simpa using this
  rw [← hsd] at hs
  have hpw := sortedIn_pairwise hs
  have hlen : d'.toList.length ≤ 1048576 := by rw [Array.length_toList, hsd, hsz]; exact hb
  have hmem : ∀ y, y ∈ d'.toList ↔ y ∈ xs := fun y => by have := hperm.mem_iff (a := y); simpa using this
  refine (Compact_spec h1.pa hlen).mono ?_
  rintro v L2 ⟨s', rfl, g1, g2, g3, _⟩
  refine ⟨s', rfl, hK s' L2 _ g1 ?_ (fun y => by rw [mem_cm]; exact hmem y) (Nat.le_trans (cm_len _) (by rw [Array.length_toList, hsd, hsz]; exact Nat.le_refl _)) g2 (by rw [g3]; exact h1.off)⟩
  refine cm_inc (lt := ltPr) ltPr_trans (hpw.imp_of_mem fun {x y} hx' hy' hlt => ?_)
  have hlt : ¬ cmpPr y x < 0 := of_decide_eq_false hlt
  by_cases e : cmpPr x y < 0
  · exact .inl e
  · right
    have h0 : cmpPr x y = 0 := by
      have := to_cmp2.anti y.2 x.2
      show orI _ _ = 0
      have a1 : ¬ orI (cmpI y.2.1 x.2.1) (cmpI y.2.2 x.2.2) < 0 := hlt
      have a2 : ¬ orI (cmpI x.2.1 y.2.1) (cmpI x.2.2 y.2.2) < 0 := e
      omega
    have h2 := (to_cmp2.eq x.2 y.2).1 h0
    have h3 := hx x ((hmem x).1 hx')
    have h4 := hx y ((hmem y).1 hy')
    exact Prod.ext (by rw [h3, h4]) h2
end Go.Proofs.Ytcnkbjipogngaaa.NormC

namespace Go.Proofs.Ytcnkbjipogngaaa.NormC
open Go Go.Proofs.Ytcnkbjipogngaaa.GH

/-- A pair that a rule of two symbols gives nonterminal n. -/
def PrOf (rows : List (List Bool)) (bs : List Bs) (n : Nat) (y : Pr) : Prop := y.1 = (n : Int) ∧ ∃ x ∈ bs, x.2 = [y.2.1, y.2.2] ∧ cellB rows n x.1 = true
def prOf (rows : List (List Bool)) (n : Nat) (x : Bs) : List Pr := if x.2.length = 2 ∧ cellB rows n x.1 = true then [((n : Int), x.2.getD 0 0, x.2.getD 1 0)] else []
theorem mem_prOf {rows : List (List Bool)} {n : Nat} {bs : List Bs} {y : Pr} : y ∈ bs.flatMap (prOf rows n) ↔ PrOf rows bs n y := by
  rw [List.mem_flatMap]
  constructor
  · rintro ⟨x, hx, hy⟩
    unfold prOf at hy
    split at hy
    · rename_i h
      rw [List.mem_singleton] at hy
      subst hy
      obtain ⟨x1, x2⟩ := x
      match x2, h.1 with
      | [u, v], _ => exact ⟨rfl, _, hx, rfl, h.2⟩
    · cases hy
  · rintro ⟨h1, x, hx, h2, h3⟩
    refine ⟨x, hx, ?_⟩
    unfold prOf
    rw [if_pos ⟨by rw [h2]; rfl, h3⟩, List.mem_singleton]
    obtain ⟨y1, y2, y3⟩ := y
    simp only at h1 h2 ⊢
    rw [h2, h1]; rfl

section
variable {K : Value → GHeap → Prop} {Lb : GHeap} {g : Gram} {b : Nat} {sg sr srl sn sc : Sl} {nl : List Bool} {rows : List (List Bool)} {n : Nat}
variable {t45 t46 g0 g1 g2 : Int} {g3 : Sl} {u0 u1 u2 : Int} {u3 : Bool} {u4 u5 : Sl} {o0 o1 o2 : Int} {o3 : Bool} {o4 o5 : Sl}

theorem of_bases (hv : Valid g) (hq : DivQ Lb b g sg sr srl sn nl) (hsc : IsSl (rS rB) Lb sc rows) (htab : Tab (nN g).toNat rows) (hn : n < (nN g).toNat)
    (hend : ∀ (L3 : GHeap) (M : Nat → Prop) (l : Sl), PG (cSP id) 3 Lb L3 M l ((rulesG g).flatten.flatMap (prOf rows n)) → Le Lb (L3.off M) → normal_Of.c12 K (some ⟨b, 0, none⟩) sc ((n : Nat) : Int) l t45 t46 srl ((srl.n : Nat) : Int) ((srl.n : Nat) : Int) g0 g1 g2 g3 u0 u1 u2 u3 u4 u5 o0 o1 o2 o3 o4 o5 L3) :
    ∀ i, i ≤ (rulesG g).length → ∀ (L3 : GHeap) (M : Nat → Prop) (l : Sl), PG (cSP id) 3 Lb L3 M l (((rulesG g).take i).flatten.flatMap (prOf rows n)) → Le Lb (L3.off M) →
      normal_Of.c12 K (some ⟨b, 0, none⟩) sc ((n : Nat) : Int) l t45 t46 srl ((srl.n : Nat) : Int) ((i : Nat) : Int) g0 g1 g2 g3 u0 u1 u2 u3 u4 u5 o0 o1 o2 o3 o4 o5 L3 := by
  have hN := nN_le hv
  have hok := rulesG_ok hv
  have hlen := rulesG_len g
  have hmany := hv.many
  have hsn := hq.rules.n
  have hcnt : ∀ bs : List Bs, (bs.flatMap (prOf rows n)).length ≤ bs.length := by
    intro bs
    induction bs with
    | nil => simp
    | cons x bs ih =>
      rw [List.flatMap_cons, List.length_append, List.length_cons]
      have : (prOf rows n x).length ≤ 1 := by unfold prOf; split <;> simp
      omega
  have hfl : ∀ i, i ≤ (rulesG g).length → (((rulesG g).take i).flatten).length ≤ 3 * i := by
    intro i
    induction i with
    | zero => simp
    | succ i ih =>
      intro hi
      have h3 := (hok _ (List.getElem_mem (l := rulesG g) (n := i) (by omega))).1
      rw [List.take_succ_eq_append_getElem (by omega), List.flatten_append, List.length_append, List.flatten_cons, List.flatten_nil, List.append_nil]
      have := ih (by omega)
      omega
  generalize hnn : (nN g).toNat = nn at *
  refine down ?_ ?_
  · intro L3 M l hp hle
    rw [List.take_length] at hp
    rw [← hsn]
    exact hend L3 M l hp hle
  · intro i hi ih L3 M l hp hle
    have hx := List.getElem?_eq_getElem hi
    have hrow := hok _ (List.getElem_mem hi)
    have hfi := hfl i (by omega)
    have htk : ((rulesG g).take (i + 1)).flatten = ((rulesG g).take i).flatten ++ (rulesG g)[i] := by rw [List.take_succ_eq_append_getElem hi, List.flatten_append, List.flatten_cons, List.flatten_nil, List.append_nil]
    rw [htk] at ih
    generalize (rulesG g)[i] = row at *
    generalize ((rulesG g).take i).flatten = pre at *
    have hleL : Le Lb L3 := hp.le hle
    apply normal_Of.go12
    refine bcD (fun _ => ?_) fun h => absurd (by omega) h
    refine hq.rules.get hx fun a cs hKK hcc => ?_
    obtain ⟨sx, rfl, hsx⟩ := hKK
    have hsxn := hsx.n
    refine ⟨sx, reads_one (hleL.toLeM.reads hcc), ?_⟩
    have inner : ∀ j, j ≤ row.length → ∀ (L4 : GHeap) (M : Nat → Prop) (l : Sl), PG (cSP id) 3 Lb L4 M l ((pre ++ row.take j).flatMap (prOf rows n)) → Le Lb (L4.off M) →
        normal_Of.c15 K (some ⟨b, 0, none⟩) sc ((n : Nat) : Int) l t45 t46 srl ((srl.n : Nat) : Int) ((i : Nat) : Int) sx ((sx.n : Nat) : Int) ((j : Nat) : Int) g0 g1 g2 g3 u0 u1 u2 u3 u4 u5 o0 o1 o2 o3 o4 o5 L4 := by
      refine down ?_ ?_
      · intro L4 M l hp hle
        rw [List.take_length] at hp
        apply normal_Of.go15
        refine bcD (fun h => absurd h (by omega)) fun _ => ?_
        rw [add_one (by omega)]
        exact ih L4 M l hp hle
      · intro j hj ihj L4 M l hp hle
        have hxj := List.getElem?_eq_getElem hj
        have hb := hrow.2 _ (List.getElem_mem hj)
        have hc1 := hcnt (pre ++ row.take j)
        rw [List.length_append, List.length_take] at hc1
        rw [List.take_succ_eq_append_getElem hj, ← List.append_assoc, List.flatMap_append] at ihj
        generalize row[j] = x at *
        obtain ⟨left, right⟩ := x
        obtain ⟨⟨l0, l1⟩, h2, hr⟩ := hb
        simp only at l0 l1 h2 hr
        obtain ⟨lf, rfl⟩ := Int.eq_ofNat_of_zero_le l0
        have hle4 : Le Lb L4 := hp.le hle
        have next : ∀ (L5 : GHeap) (M : Nat → Prop) (l : Sl), PG (cSP id) 3 Lb L5 M l ((pre ++ row.take j).flatMap (prOf rows n) ++ prOf rows n (((lf : Nat) : Int), right)) → Le Lb (L5.off M) →
            normal_Of.c19 K (some ⟨b, 0, none⟩) sc ((n : Nat) : Int) l t45 t46 srl ((srl.n : Nat) : Int) ((i : Nat) : Int) sx ((sx.n : Nat) : Int) ((j : Nat) : Int) g0 g1 g2 g3 u0 u1 u2 u3 u4 u5 o0 o1 o2 o3 o4 o5 L5 := by
          intro L5 M l f1 f2
          apply normal_Of.go19
          unfold normal_Of.t19
          rw [add_one (by omega)]
          exact ihj L5 M l (by simpa using f1) f2
        apply normal_Of.go15
        refine bcD (fun _ => ?_) fun h => absurd (by omega) h
        refine hsx.get hxj fun a cs hKK hcc => ?_
        obtain ⟨sy, rfl, hsy⟩ := hKK
        have hsy : IsSl rI Lb sy right := hsy
        have hsyn := hsy.n
        refine ⟨_, sy, hle4.toLeM.reads hcc, bcE (fun e2 => ?_) fun e2 => ?_⟩
        · have hl2 : right.length = 2 := by omega
          obtain ⟨rw1, v1, r1, r2, r3, r4⟩ := htab.get hn (show lf < nn by omega)
          refine hsc.get r1 fun a cs hKK hcc => ?_
          obtain ⟨sz, rfl, hsz⟩ := hKK
          refine ⟨sz, reads_one (hle4.toLeM.reads hcc), ?_⟩
          refine hsz.get r2 fun a cs hKK hcc => ?_
          obtain rfl := hKK
          refine ⟨v1, reads_one (hle4.toLeM.reads hcc), bcI (fun hvt => ?_) fun hvf => ?_⟩
          · match right, hl2 with
            | [p, q], _ =>
            have hpr : prOf rows n (((lf : Nat) : Int), [p, q]) = [((n : Int), p, q)] := by unfold prOf; rw [if_pos ⟨rfl, by rw [← hvt]; exact r4⟩]; rfl
            rw [hpr] at next
            refine hsy.get (i := 0) (x := p) rfl fun a cs hKK hcc => ?_
            obtain rfl := hKK
            refine hsy.get (i := 1) (x := q) rfl fun a' cs hKK hcc' => ?_
            obtain rfl := hKK
            have m1 := reads_one (hle4.toLeM.reads hcc)
            have m2 := reads_one (hle4.toLeM.reads hcc')
            have leaf : appendK 3 24 L4 l 1 [.int .i64 ((n : Nat) : Int), .int .i64 p, .int .i64 q] fun x90 L => normal_Of.c19 K (some ⟨b, 0, none⟩) sc ((n : Nat) : Int) x90 t45 t46 srl ((srl.n : Nat) : Int) ((i : Nat) : Int) sx ((sx.n : Nat) : Int) ((j : Nat) : Int) g0 g1 g2 g3 u0 u1 u2 u3 u4 u5 o0 o1 o2 o3 o4 o5 L :=
              PG.append (by decide) cSP_len hp hle (x := (((n : Nat) : Int), p, q)) rfl (by omega) fun l' L5 M' f1 f2 => next L5 M' l' f1 (hle.trans f2)
            exact ⟨⟨_, m1, _, m2, leaf⟩, _, m2, _, m1, leaf⟩
          · refine next L4 M l ?_ hle
            have hpr : prOf rows n (((lf : Nat) : Int), right) = [] := by unfold prOf; rw [if_neg fun h => by have := h.2; rw [r4, hvf] at this; cases this]
            rw [hpr, List.append_nil]; exact hp
        · refine next L4 M l ?_ hle
          have hpr : prOf rows n (((lf : Nat) : Int), right) = [] := by unfold prOf; rw [if_neg fun h => by have := h.1; simp only at this; omega]
          rw [hpr, List.append_nil]; exact hp
    exact inner 0 (Nat.zero_le _) L3 M l (by simpa using hp) hle
end
end Go.Proofs.Ytcnkbjipogngaaa.NormC

