/- normal.Of: the rules of one terminal are collected. -/
import Derived.Test.YtcnkbjipogngaaaDoorCNormOf2
set_option linter.all false
namespace Go.Proofs.YtcnkbjipogngaaaDoor.NormC
open Go Go.Proofs.YtcnkbjipogngaaaDoor.GH

def rOn : Rp (Int × Int) := ⟨2, by decide, fun _ cs x => cs = [.int .i64 x.1, .int .i64 x.2], fun h => by rw [h]; rfl, fun h => by rw [h]; rfl, fun _ h => h⟩
def onT (rows : List (List Bool)) (T : Int) (n t : Nat) : List (Int × Int) := if cellB rows n (T + (t : Int)) = true then [((n : Int), (t : Int))] else []
def onesTo (rows : List (List Bool)) (T : Int) (n k : Nat) : List (Int × Int) := (List.range k).flatMap (onT rows T n)
theorem onesTo_succ {rows : List (List Bool)} {T : Int} {n k : Nat} : onesTo rows T n (k + 1) = onesTo rows T n k ++ onT rows T n k := by
  unfold onesTo; rw [List.range_succ, List.flatMap_append]; simp
theorem onesTo_len {rows : List (List Bool)} {T : Int} {n : Nat} : ∀ k, (onesTo rows T n k).length ≤ k
  | 0 => by simp [onesTo]
  | k + 1 => by
    have ih := onesTo_len (rows := rows) (T := T) (n := n) k
    rw [onesTo_succ, List.length_append]
    have : (onT rows T n k).length ≤ 1 := by unfold onT; split <;> simp
    omega

section
variable {K : Value → GHeap → Prop} {L0 Lb : GHeap} {g : Gram} {b : Nat} {sg sr srl sn sc : Sl} {nl : List Bool} {rows : List (List Bool)} {n : Nat}
variable {t45 t46 g0 g1 g2 : Int} {g3 : Sl} {u0 u1 u2 : Int} {u3 : Bool} {u4 u5 : Sl} {o0 o1 o2 : Int} {o3 : Bool} {o4 : Sl}

theorem of_ones (hv : Valid g) (hq : DivQ Lb b g sg sr srl sn nl) (hsc : IsSl (rS rB) Lb sc rows) (htab : Tab (nN g).toNat rows) (hn : n < (nN g).toNat) {acc : List (Int × Int)} {ps : List Pr} (hacc : acc.length ≤ 1048576)
    (hend : ∀ (L3 : GHeap) (o5 : Sl), LeM Lb L3 → Le L0 L3 → Own L0 rOn L3 o5 (acc ++ onesTo rows (nT g) n g.terms.toNat) → Own L0 rPr L3 o4 ps → Sep o5 o4 → normal_Of.c8 K (some ⟨b, 0, none⟩) sc t45 (w64 (t46 + 1)) g0 g1 g2 g3 u0 u1 u2 u3 u4 u5 o0 o1 o2 o3 o4 o5 L3) :
    ∀ i, i ≤ g.terms.toNat → ∀ (L3 : GHeap) (o5 : Sl), LeM Lb L3 → Le L0 L3 → Own L0 rOn L3 o5 (acc ++ onesTo rows (nT g) n i) → Own L0 rPr L3 o4 ps → Sep o5 o4 →
      normal_Of.c24 K (some ⟨b, 0, none⟩) sc ((n : Nat) : Int) t45 t46 ((g.terms.toNat : Nat) : Int) ((i : Nat) : Int) g0 g1 g2 g3 u0 u1 u2 u3 u4 u5 o0 o1 o2 o3 o4 o5 L3 := by
  have hN := nN_le hv
  have ht := hv.terms
  have hm5 := hq.mem 5 _ rfl
  have hNT : nN g = nT g + g.terms := rfl
  refine down ?_ ?_
  · intro L3 o5 hle hle0 ho ho4 hsep
    apply normal_Of.go24
    exact bcD (fun h => absurd h (by omega)) fun _ => hend L3 o5 hle hle0 ho ho4 hsep
  · intro i hi ih L3 o5 hle hle0 ho ho4 hsep
    have hol := onesTo_len (rows := rows) (T := nT g) (n := n) i
    rw [onesTo_succ, ← List.append_assoc] at ih
    obtain ⟨Tn, hTn⟩ : ∃ Tn : Nat, nT g = Tn := ⟨(nT g).toNat, by omega⟩
    have hc : Tn + i < (nN g).toNat := by omega
    obtain ⟨rw1, v1, r1, r2, r3, r4⟩ := htab.get hn hc
    have e1 : w64 (nT g + ((i : Nat) : Int)) = ((Tn + i : Nat) : Int) := by rw [w64_in (by omega) (by omega)]; omega
    have e2 : nT g + ((i : Nat) : Int) = ((Tn + i : Nat) : Int) := by omega
    have next : ∀ (L4 : GHeap) (o5 : Sl), LeM Lb L4 → Le L0 L4 → Own L0 rOn L4 o5 ((acc ++ onesTo rows (nT g) n i) ++ onT rows (nT g) n i) → Own L0 rPr L4 o4 ps → Sep o5 o4 →
        normal_Of.c28 K (some ⟨b, 0, none⟩) sc ((n : Nat) : Int) t45 t46 ((g.terms.toNat : Nat) : Int) ((i : Nat) : Int) g0 g1 g2 g3 u0 u1 u2 u3 u4 u5 o0 o1 o2 o3 o4 o5 L4 := by
      intro L4 o5 f1 f0 f2 f3 f4
      apply normal_Of.go28
      unfold normal_Of.t28
      rw [add_one (by omega)]
      exact ih L4 o5 f1 f0 f2 f3 f4
    apply normal_Of.go24
    refine bcD (fun _ => ?_) fun h => absurd (by omega) h
    refine hsc.get r1 fun a cs hKK hcc => ?_
    obtain ⟨sz, rfl, hsz⟩ := hKK
    refine ⟨sz, reads_one (hle.reads hcc), _, hle.mem _ _ hm5, ?_⟩
    rw [e1]
    refine hsz.get r2 fun a cs hKK hcc => ?_
    obtain rfl := hKK
    refine ⟨v1, reads_one (hle.reads hcc), bcI (fun hvt => ?_) fun hvf => ?_⟩
    · have hon : onT rows (nT g) n i = [((n : Int), (i : Int))] := by unfold onT; rw [if_pos (by rw [e2, r4]; exact hvt)]
      rw [hon] at next
      refine Own.append (R := rOn) (bytes := 16) (m := 1) (ys := [(((n : Nat) : Int), ((i : Nat) : Int))]) ho hle0 (Cells.cons (R := rOn) (c := [.int .i64 ((n : Nat) : Int), .int .i64 ((i : Nat) : Int)]) rfl .nil) rfl (.inl (by rw [List.length_append]; omega)) fun o5' L4 k1 k2 k3 _ k5 => ?_
      have hk := k5 rPr o4 _ ho4 hsep
      exact next L4 o5' (hle.trans k2) k1 k3 hk.1 hk.2
    · have hon : onT rows (nT g) n i = [] := by unfold onT; rw [if_neg (by rw [e2, r4, hvf]; simp)]
      rw [hon] at next
      exact next L3 o5 hle hle0 (by rw [List.append_nil]; exact ho) ho4 hsep
end
end Go.Proofs.YtcnkbjipogngaaaDoor.NormC
