/- normal.Of: nonterminal by nonterminal. -/
import Derived.Test.YtcnkbjipogngaaaDoorCNormOf3
set_option linter.all false
namespace Go.Proofs.YtcnkbjipogngaaaDoor.NormC
open Go Go.Proofs.YtcnkbjipogngaaaDoor.GH

structure PairsTo (rows : List (List Bool)) (bs : List Bs) (n : Nat) (f : Nat → List Pr) : Prop where
  inc : ∀ m, m < n → (f m).Pairwise ltPr
  mem : ∀ m, m < n → ∀ y, y ∈ f m ↔ PrOf rows bs m y
  len : ∀ m, m < n → (f m).length ≤ 96

theorem prOf_len {rows : List (List Bool)} {n : Nat} : ∀ bs : List Bs, (bs.flatMap (prOf rows n)).length ≤ bs.length
  | [] => by simp
  | x :: bs => by
    have ih := prOf_len (rows := rows) (n := n) bs
    rw [List.flatMap_cons, List.length_append, List.length_cons]
    have : (prOf rows n x).length ≤ 1 := by unfold prOf; split <;> simp
    omega
theorem flat3 : ∀ ls : List (List Bs), (∀ l ∈ ls, l.length ≤ 3) → ls.flatten.length ≤ 3 * ls.length
  | [], _ => by simp
  | l :: ls, h => by
    have ih := flat3 ls fun x hx => h x (List.mem_cons_of_mem _ hx)
    have := h l (List.mem_cons_self ..)
    rw [List.flatten_cons, List.length_append, List.length_cons]; omega

theorem flatMap_len {α : Type} {f : Nat → List α} {k : Nat} : ∀ n, (∀ m, m < n → (f m).length ≤ k) → ((List.range n).flatMap f).length ≤ n * k
  | 0, _ => by simp
  | n + 1, h => by
    have ih := flatMap_len n fun m hm => h m (by omega)
    have h1 := h n (by omega)
    have e : [n].flatMap f = f n := by simp
    rw [List.range_succ, List.flatMap_append, List.length_append, Nat.add_mul, e]; omega

section
variable {K : Value → GHeap → Prop} {L0 Lb : GHeap} {g : Gram} {b : Nat} {sg sr srl sn sc : Sl} {nl : List Bool} {rows : List (List Bool)}
variable {g3 : Sl} {u0 u1 u2 : Int} {u3 : Bool} {u4 u5 : Sl} {o0 o1 o2 : Int} {o3 : Bool}

theorem of_outer (hv : Valid g) (hq : DivQ Lb b g sg sr srl sn nl) (hsc : IsSl (rS rB) Lb sc rows) (htab : Tab (nN g).toNat rows)
    (hend : ∀ (L3 : GHeap) (o4 o5 : Sl) (f : Nat → List Pr), Le L0 L3 → PairsTo rows (rulesG g).flatten (nN g).toNat f → IsSl rPr L3 o4 ((List.range (nN g).toNat).flatMap f) → IsSl rOn L3 o5 ((List.range (nN g).toNat).flatMap fun m => onesTo rows (nT g) m g.terms.toNat) →
      K (.tuple #[.agg #[.int .i64 o0, .int .i64 o1, .int .i64 o2, .bool o3, .slice o4.a o4.n o4.c, .slice o5.a o5.n o5.c], .int .i64 0]) L3) :
    ∀ n, n ≤ (nN g).toNat → ∀ (L3 : GHeap) (o4 o5 : Sl) (f : Nat → List Pr), LeM Lb L3 → Le L0 L3 → PairsTo rows (rulesG g).flatten n f → Own L0 rPr L3 o4 ((List.range n).flatMap f) → Own L0 rOn L3 o5 ((List.range n).flatMap fun m => onesTo rows (nT g) m g.terms.toNat) → Sep o4 o5 →
      normal_Of.c8 K (some ⟨b, 0, none⟩) sc (((nN g).toNat : Nat) : Int) ((n : Nat) : Int) g.terms g.nons g.start g3 u0 u1 u2 u3 u4 u5 o0 o1 o2 o3 o4 o5 L3 := by
  have hN := nN_le hv
  have ht := hv.terms
  have hm7 := hq.mem 7 _ rfl
  have hok := rulesG_ok hv
  refine down ?_ ?_
  · intro L3 o4 o5 f h1 h2 hf h4 h5 _
    apply normal_Of.go8
    exact bcD (fun h => absurd h (by omega)) fun _ => hend L3 o4 o5 f h2 hf h4.sl h5.sl
  · intro n hn ih L3 o4 o5 f h1 h2 hf h4 h5 hsep
    have hfl := flatMap_len n hf.len
    have hol := flatMap_len (f := fun m => onesTo rows (nT g) m g.terms.toNat) (k := 8) n fun m _ => by have := onesTo_len (rows := rows) (T := nT g) (n := m) g.terms.toNat; omega
    apply normal_Of.go8
    refine bcD (fun _ => ?_) fun h => absurd (by omega) h
    refine ⟨srl, h1.mem _ _ hm7, ?_⟩
    refine of_bases (Lb := L3) hv (hq.mono h1) (hsc.mono h1) htab hn ?_ 0 (Nat.zero_le _) L3 _ ⟨none, 0, 0⟩ (PG.empty L3 L3 none) (by rw [off_empty]; exact .refl _)
    intro L4 M l hp hle
    have hmem : ∀ y, y ∈ (rulesG g).flatten.flatMap (prOf rows n) ↔ PrOf rows (rulesG g).flatten n y := fun y => mem_prOf
    have hxl : ((rulesG g).flatten.flatMap (prOf rows n)).length ≤ 96 := by
      have q1 := prOf_len (rows := rows) (n := n) (rulesG g).flatten
      have q2 := flat3 (rulesG g) fun l hl => (hok l hl).1
      have q3 := rulesG_len g
      have q4 := hv.many
      omega
    generalize (rulesG g).flatten.flatMap (prOf rows n) = xs at *
    apply normal_Of.go12
    refine bcD (fun h => absurd h (by omega)) fun _ => ?_
    refine sortPr hp (n := (n : Int)) (fun x hx => ((hmem x).1 hx).1) (by omega) fun s' L5 ys hys hinc hym hyl hlive hoff => ?_
    have hle5 : Le L3 L5 := le_of_off hp.unu (by rw [hoff]; exact hle)
    obtain ⟨cs, hcc, hrd⟩ := hys.cells
    refine ⟨cs, ⟨hrd, hcc.one⟩, Own.append (R := rPr) (bytes := 24) (m := s'.n) (ys := ys) (h4.mono hle5) (h2.trans hle5) hcc hys.n.symm (.inl (by rw [hys.n]; omega)) fun o4' L6 k1 k2 k3 _ k5 => ?_⟩
    have hk := k5 rOn o5 _ (h5.mono hle5) hsep
    have hbL6 : LeM Lb L6 := (h1.trans hle5.toLeM).trans k2
    have htt : ((g.terms.toNat : Nat) : Int) = g.terms := by omega
    have hfin : ∀ (L7 : GHeap) (o5' : Sl), LeM Lb L7 → Le L0 L7 → Own L0 rOn L7 o5' (((List.range n).flatMap fun m => onesTo rows (nT g) m g.terms.toNat) ++ onesTo rows (nT g) n g.terms.toNat) → Own L0 rPr L7 o4' ((List.range n).flatMap f ++ ys) → Sep o5' o4' →
        normal_Of.c8 K (some ⟨b, 0, none⟩) sc (((nN g).toNat : Nat) : Int) (w64 (((n : Nat) : Int) + 1)) g.terms g.nons g.start g3 u0 u1 u2 u3 u4 u5 o0 o1 o2 o3 o4' o5' L7 := by
      intro L7 o5' q1 q2 q3 q4 q5
      rw [add_one (by omega)]
      have ef : ∀ m, m < n → (fun m => if m = n then ys else f m) m = f m := fun m hm => if_neg (by omega)
      refine ih L7 o4' o5' (fun m => if m = n then ys else f m) q1 q2 ⟨fun m hm => ?_, fun m hm y => ?_, fun m hm => ?_⟩ ?_ ?_ q5.symm
      · show List.Pairwise ltPr (if m = n then ys else f m)
        split
        · exact hinc
        · exact hf.inc m (by omega)
      · show y ∈ (if m = n then ys else f m) ↔ _
        split
        · rename_i h; subst h; rw [hym, hmem]
        · exact hf.mem m (by omega) y
      · show (if m = n then ys else f m).length ≤ 96
        split
        · omega
        · exact hf.len m (by omega)
      · have e : (List.range (n + 1)).flatMap (fun m => if m = n then ys else f m) = (List.range n).flatMap f ++ ys := by
          have e1 : [n].flatMap (fun m => if m = n then ys else f m) = ys := by simp
          rw [List.range_succ, List.flatMap_append, e1]
          congr 1
          unfold List.flatMap
          congr 1
          exact List.map_congr_left fun m hm => ef m (List.mem_range.1 hm)
        rw [e]; exact q4
      · have e1 : [n].flatMap (fun m => onesTo rows (nT g) m g.terms.toNat) = onesTo rows (nT g) n g.terms.toNat := by simp
        rw [List.range_succ, List.flatMap_append, e1]; exact q3
    have := of_ones (K := K) (L0 := L0) (Lb := Lb) (t45 := (((nN g).toNat : Nat) : Int)) (t46 := ((n : Nat) : Int)) (g0 := g.terms) (g1 := g.nons) (g2 := g.start) (g3 := g3) (u0 := u0) (u1 := u1) (u2 := u2) (u3 := u3) (u4 := u4) (u5 := u5) (o0 := o0) (o1 := o1) (o2 := o2) (o3 := o3) (o4 := o4')
      hv hq hsc htab hn (acc := (List.range n).flatMap fun m => onesTo rows (nT g) m g.terms.toNat) (by omega) hfin 0 (Nat.zero_le _) L6 o5 hbL6 k1 (by simpa [onesTo] using hk.1) k3 hk.2.symm
    rw [htt] at this
    exact this
end
end Go.Proofs.YtcnkbjipogngaaaDoor.NormC
