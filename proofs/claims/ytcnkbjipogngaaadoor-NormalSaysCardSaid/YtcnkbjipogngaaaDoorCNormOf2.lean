/- normal.Of: the pairs of a nonterminal are collected. -/
import Derived.Test.YtcnkbjipogngaaaDoorCNormOf
set_option linter.all false
namespace Go.Proofs.YtcnkbjipogngaaaDoor.NormC
open Go Go.Proofs.YtcnkbjipogngaaaDoor.GH

/-- A pair that a rule of two symbols gives nonterminal n. -/
def PrOf (rows : List (List Bool)) (bs : List Bs) (n : Nat) (y : Pr) : Prop := y.1 = (n : Int) ∧ ∃ x ∈ bs, x.2 = [y.2.1, y.2.2] ∧ cellB rows n x.1 = true
def prOf (rows : List (List Bool)) (n : Nat) (x : Bs) : List Pr := if x.2.length = 2 ∧ cellB rows n x.1 = true then [((n : Int), x.2.getD 0 0, x.2.getD 1 0)] else []
theorem mem_prOf {rows : List (List Bool)} {n : Nat} {bs : List Bs} {y : Pr} : y ∈ bs.flatMap (prOf rows n) ↔ PrOf rows bs n y := by
  rw [List.mem_flatMap]
  constructor
  · rintro ⟨x, hx, hy⟩
    unfold prOf at hy
    split at hy
    · rename_i h
      rw [List.mem_singleton] at hy
      subst hy
      obtain ⟨x1, x2⟩ := x
      match x2, h.1 with
      | [u, v], _ => exact ⟨rfl, _, hx, rfl, h.2⟩
    · cases hy
  · rintro ⟨h1, x, hx, h2, h3⟩
    refine ⟨x, hx, ?_⟩
    unfold prOf
    rw [if_pos ⟨by rw [h2]; rfl, h3⟩, List.mem_singleton]
    obtain ⟨y1, y2, y3⟩ := y
    simp only at h1 h2 ⊢
    rw [h2, h1]; rfl

section
variable {K : Value → GHeap → Prop} {Lb : GHeap} {g : Gram} {b : Nat} {sg sr srl sn sc : Sl} {nl : List Bool} {rows : List (List Bool)} {n : Nat}
variable {t45 t46 g0 g1 g2 : Int} {g3 : Sl} {u0 u1 u2 : Int} {u3 : Bool} {u4 u5 : Sl} {o0 o1 o2 : Int} {o3 : Bool} {o4 o5 : Sl}

theorem of_bases (hv : Valid g) (hq : DivQ Lb b g sg sr srl sn nl) (hsc : IsSl (rS rB) Lb sc rows) (htab : Tab (nN g).toNat rows) (hn : n < (nN g).toNat)
    (hend : ∀ (L3 : GHeap) (M : Nat → Prop) (l : Sl), PG (cSP id) 3 Lb L3 M l ((rulesG g).flatten.flatMap (prOf rows n)) → Le Lb (L3.off M) → normal_Of.c12 K (some ⟨b, 0, none⟩) sc ((n : Nat) : Int) l t45 t46 srl ((srl.n : Nat) : Int) ((srl.n : Nat) : Int) g0 g1 g2 g3 u0 u1 u2 u3 u4 u5 o0 o1 o2 o3 o4 o5 L3) :
    ∀ i, i ≤ (rulesG g).length → ∀ (L3 : GHeap) (M : Nat → Prop) (l : Sl), PG (cSP id) 3 Lb L3 M l (((rulesG g).take i).flatten.flatMap (prOf rows n)) → Le Lb (L3.off M) →
      normal_Of.c12 K (some ⟨b, 0, none⟩) sc ((n : Nat) : Int) l t45 t46 srl ((srl.n : Nat) : Int) ((i : Nat) : Int) g0 g1 g2 g3 u0 u1 u2 u3 u4 u5 o0 o1 o2 o3 o4 o5 L3 := by
  have hN := nN_le hv
  have hok := rulesG_ok hv
  have hlen := rulesG_len g
  have hmany := hv.many
  have hsn := hq.rules.n
  have hcnt : ∀ bs : List Bs, (bs.flatMap (prOf rows n)).length ≤ bs.length := by
    intro bs
    induction bs with
    | nil => simp
    | cons x bs ih =>
      rw [List.flatMap_cons, List.length_append, List.length_cons]
      have : (prOf rows n x).length ≤ 1 := by unfold prOf; split <;> simp
      omega
  have hfl : ∀ i, i ≤ (rulesG g).length → (((rulesG g).take i).flatten).length ≤ 3 * i := by
    intro i
    induction i with
    | zero => simp
    | succ i ih =>
      intro hi
      have h3 := (hok _ (List.getElem_mem (l := rulesG g) (n := i) (by omega))).1
      rw [List.take_succ_eq_append_getElem (by omega), List.flatten_append, List.length_append, List.flatten_cons, List.flatten_nil, List.append_nil]
      have := ih (by omega)
      omega
  generalize hnn : (nN g).toNat = nn at *
  refine down ?_ ?_
  · intro L3 M l hp hle
    rw [List.take_length] at hp
    rw [← hsn]
    exact hend L3 M l hp hle
  · intro i hi ih L3 M l hp hle
    have hx := List.getElem?_eq_getElem hi
    have hrow := hok _ (List.getElem_mem hi)
    have hfi := hfl i (by omega)
    have htk : ((rulesG g).take (i + 1)).flatten = ((rulesG g).take i).flatten ++ (rulesG g)[i] := by rw [List.take_succ_eq_append_getElem hi, List.flatten_append, List.flatten_cons, List.flatten_nil, List.append_nil]
    rw [htk] at ih
    generalize (rulesG g)[i] = row at *
    generalize ((rulesG g).take i).flatten = pre at *
    have hleL : Le Lb L3 := hp.le hle
    apply normal_Of.go12
    refine bcD (fun _ => ?_) fun h => absurd (by omega) h
    refine hq.rules.get hx fun a cs hKK hcc => ?_
    obtain ⟨sx, rfl, hsx⟩ := hKK
    have hsxn := hsx.n
    refine ⟨sx, reads_one (hleL.toLeM.reads hcc), ?_⟩
    have inner : ∀ j, j ≤ row.length → ∀ (L4 : GHeap) (M : Nat → Prop) (l : Sl), PG (cSP id) 3 Lb L4 M l ((pre ++ row.take j).flatMap (prOf rows n)) → Le Lb (L4.off M) →
        normal_Of.c15 K (some ⟨b, 0, none⟩) sc ((n : Nat) : Int) l t45 t46 srl ((srl.n : Nat) : Int) ((i : Nat) : Int) sx ((sx.n : Nat) : Int) ((j : Nat) : Int) g0 g1 g2 g3 u0 u1 u2 u3 u4 u5 o0 o1 o2 o3 o4 o5 L4 := by
      refine down ?_ ?_
      · intro L4 M l hp hle
        rw [List.take_length] at hp
        apply normal_Of.go15
        refine bcD (fun h => absurd h (by omega)) fun _ => ?_
        rw [add_one (by omega)]
        exact ih L4 M l hp hle
      · intro j hj ihj L4 M l hp hle
        have hxj := List.getElem?_eq_getElem hj
        have hb := hrow.2 _ (List.getElem_mem hj)
        have hc1 := hcnt (pre ++ row.take j)
        rw [List.length_append, List.length_take] at hc1
        rw [List.take_succ_eq_append_getElem hj, ← List.append_assoc, List.flatMap_append] at ihj
        generalize row[j] = x at *
        obtain ⟨left, right⟩ := x
        obtain ⟨⟨l0, l1⟩, h2, hr⟩ := hb
        simp only at l0 l1 h2 hr
        obtain ⟨lf, rfl⟩ := Int.eq_ofNat_of_zero_le l0
        have hle4 : Le Lb L4 := hp.le hle
        have next : ∀ (L5 : GHeap) (M : Nat → Prop) (l : Sl), PG (cSP id) 3 Lb L5 M l ((pre ++ row.take j).flatMap (prOf rows n) ++ prOf rows n (((lf : Nat) : Int), right)) → Le Lb (L5.off M) →
            normal_Of.c19 K (some ⟨b, 0, none⟩) sc ((n : Nat) : Int) l t45 t46 srl ((srl.n : Nat) : Int) ((i : Nat) : Int) sx ((sx.n : Nat) : Int) ((j : Nat) : Int) g0 g1 g2 g3 u0 u1 u2 u3 u4 u5 o0 o1 o2 o3 o4 o5 L5 := by
          intro L5 M l f1 f2
          apply normal_Of.go19
          unfold normal_Of.t19
          rw [add_one (by omega)]
          exact ihj L5 M l (by simpa using f1) f2
        apply normal_Of.go15
        refine bcD (fun _ => ?_) fun h => absurd (by omega) h
        refine hsx.get hxj fun a cs hKK hcc => ?_
        obtain ⟨sy, rfl, hsy⟩ := hKK
        have hsy : IsSl rI Lb sy right := hsy
        have hsyn := hsy.n
        refine ⟨_, sy, hle4.toLeM.reads hcc, bcE (fun e2 => ?_) fun e2 => ?_⟩
        · have hl2 : right.length = 2 := by omega
          obtain ⟨rw1, v1, r1, r2, r3, r4⟩ := htab.get hn (show lf < nn by omega)
          refine hsc.get r1 fun a cs hKK hcc => ?_
          obtain ⟨sz, rfl, hsz⟩ := hKK
          refine ⟨sz, reads_one (hle4.toLeM.reads hcc), ?_⟩
          refine hsz.get r2 fun a cs hKK hcc => ?_
          obtain rfl := hKK
          refine ⟨v1, reads_one (hle4.toLeM.reads hcc), bcI (fun hvt => ?_) fun hvf => ?_⟩
          · match right, hl2 with
            | [p, q], _ =>
            have hpr : prOf rows n (((lf : Nat) : Int), [p, q]) = [((n : Int), p, q)] := by unfold prOf; rw [if_pos ⟨rfl, by rw [← hvt]; exact r4⟩]; rfl
            rw [hpr] at next
            refine hsy.get (i := 0) (x := p) rfl fun a cs hKK hcc => ?_
            obtain rfl := hKK
            refine hsy.get (i := 1) (x := q) rfl fun a' cs hKK hcc' => ?_
            obtain rfl := hKK
            have m1 := reads_one (hle4.toLeM.reads hcc)
            have m2 := reads_one (hle4.toLeM.reads hcc')
            have leaf : appendK 3 24 L4 l 1 [.int .i64 ((n : Nat) : Int), .int .i64 p, .int .i64 q] fun x90 L => normal_Of.c19 K (some ⟨b, 0, none⟩) sc ((n : Nat) : Int) x90 t45 t46 srl ((srl.n : Nat) : Int) ((i : Nat) : Int) sx ((sx.n : Nat) : Int) ((j : Nat) : Int) g0 g1 g2 g3 u0 u1 u2 u3 u4 u5 o0 o1 o2 o3 o4 o5 L :=
              PG.append (by decide) cSP_len hp hle (x := (((n : Nat) : Int), p, q)) rfl (by omega) fun l' L5 M' f1 f2 => next L5 M' l' f1 (hle.trans f2)
            exact ⟨⟨_, m1, _, m2, leaf⟩, _, m2, _, m1, leaf⟩
          · refine next L4 M l ?_ hle
            have hpr : prOf rows n (((lf : Nat) : Int), right) = [] := by unfold prOf; rw [if_neg fun h => by have := h.2; rw [r4, hvf] at this; cases this]
            rw [hpr, List.append_nil]; exact hp
        · refine next L4 M l ?_ hle
          have hpr : prOf rows n (((lf : Nat) : Int), right) = [] := by unfold prOf; rw [if_neg fun h => by have := h.1; simp only at this; omega]
          rw [hpr, List.append_nil]; exact hp
    exact inner 0 (Nat.zero_le _) L3 M l (by simpa using hp) hle
end
end Go.Proofs.YtcnkbjipogngaaaDoor.NormC
