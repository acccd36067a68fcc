/- Contracts of the program's functions. -/
import Derived.Test.YtcnkbjipogngaaaDoorCAll6
import Derived.Test.YtcnkbjipogngaaaDoorCAll11
set_option linter.all false
namespace Go.Proofs.YtcnkbjipogngaaaDoor.NormC
open Go Go.Proofs.YtcnkbjipogngaaaDoor.GH

inductive Vi (E : Int → Int → Prop) (K : Int) : Int → Int → Prop
  | one {a b : Int} : E a b → Vi E K a b
  | cons {a c b : Int} : E a c → 0 ≤ c → c < K → Vi E K c b → Vi E K a b

theorem Vi.trans {E : Int → Int → Prop} {K a c b : Int} (h : Vi E K a c) (c0 : 0 ≤ c) (c1 : c < K) (h' : Vi E K c b) : Vi E K a b := by
  induction h with
  | one he => exact .cons he c0 c1 h'
  | cons he d0 d1 _ ih => exact .cons he d0 d1 (ih c0 c1 h')
def StO (nl : List Bool) (x : Bs) (i : Nat) (b : Int) : Prop := x.2[i]? = some b ∧ (x.2.length = 1 ∨ ∃ m, x.2[1 - i]? = some m ∧ isN nl m)
def Ste (bs : List Bs) (nl : List Bool) (a b : Int) : Prop := a = b ∨ ∃ x ∈ bs, x.1 = a ∧ ∃ i, StO nl x i b

end Go.Proofs.YtcnkbjipogngaaaDoor.NormC

namespace Go.Proofs.YtcnkbjipogngaaaDoor.NormS
open Go Go.Proofs.YtcnkbjipogngaaaDoor.GH NormC

def Ed (bs : List Bs) (nl : List Bool) (a b : Int) : Prop := ∃ x ∈ bs, x.1 = a ∧ ∃ i, StO nl x i b

theorem getDB_get {l : List Bool} {i : Nat} (h : i < l.length) : l.getD i false = l[i] := by rw [List.getD_eq_getElem?_getD, List.getElem?_eq_getElem h]; rfl
theorem getDB_set {l : List Bool} {i : Nat} (h : i < l.length) (m : Nat) : (l.set i true).getD m false = if m = i then true else l.getD m false := by
  rw [List.getD_eq_getElem?_getD, List.getD_eq_getElem?_getD, List.getElem?_set]
  by_cases e : i = m
  · subst e; rw [if_pos rfl, if_pos h, if_pos rfl]; rfl
  · rw [if_neg e, if_neg (fun h => e h.symm)]
theorem falsesU : ∀ {xs ys : List Bool}, ys.length = xs.length → (∀ m : Nat, xs.getD m false = true → ys.getD m false = true) → ys.count false ≤ xs.count false
  | [], [], _, _ => Nat.le_refl _
  | [], _ :: _, h, _ => by simp at h
  | _ :: _, [], h, _ => by simp at h
  | x :: xs, y :: ys, hl, h => by
    have ih := falsesU (xs := xs) (ys := ys) (by simpa using hl) fun m hm => by simpa using h (m + 1) (by simpa using hm)
    have h0 := h 0
    simp only [List.getD_cons_zero] at h0
    rw [List.count_cons, List.count_cons]
    cases x <;> cases y <;> simp at h0 ⊢ <;> omega

structure Vs (E : Int → Int → Prop) (n : Int) (out out' : List Bool) : Prop where
  len : out'.length = out.length
  mono : ∀ m : Nat, out.getD m false = true → out'.getD m false = true
  has : out'.getD n.toNat false = true
  clo : ∀ m : Nat, out'.getD m false = true → out.getD m false = false → ∀ b, E m b → out'.getD b.toNat false = true
  snd : ∀ R : Int → Prop, (∀ m : Nat, out.getD m false = true → R m) → R n → (∀ a b, R a → E a b → R b) → ∀ m : Nat, out'.getD m false = true → R m

structure Vw (E : Int → Int → Prop) (Lb L0 L : GHeap) (M : Nat → Prop) (so : Sl) (N : Nat) (n : Int) (out out1 o : List Bool) : Prop where
  off : L.off M = Lb
  pa : PA Value.bool L0 L M so o
  len : o.length = N
  mono : ∀ m : Nat, out1.getD m false = true → o.getD m false = true
  clo : ∀ m : Nat, o.getD m false = true → out1.getD m false = false → ∀ b, E m b → o.getD b.toNat false = true
  snd : ∀ R : Int → Prop, (∀ m : Nat, out.getD m false = true → R m) → R n → (∀ a b, R a → E a b → R b) → ∀ m : Nat, o.getD m false = true → R m

theorem Vw.up {E : Int → Int → Prop} {Lb L0 L : GHeap} {M : Nat → Prop} {so : Sl} {N : Nat} {n : Int} {out out1 o : List Bool} (h : Vw E Lb L0 L M so N n out out1 o) : LeM Lb L := by rw [← h.off]; exact off_le

theorem Vw.go {E : Int → Int → Prop} {Lb L0 L L' : GHeap} {M : Nat → Prop} {so : Sl} {N : Nat} {n k : Int} {out out1 o o' : List Bool} (h : Vw E Lb L0 L M so N n out out1 o) (hoff : L'.off M = Lb) (hpa : PA Value.bool L0 L' M so o') (hv : Vs E k o o') (he : E n k) : Vw E Lb L0 L' M so N n out out1 o' := by
  refine ⟨hoff, hpa, by rw [hv.len]; exact h.len, fun m hm => hv.mono m (h.mono m hm), fun m h1 h2 b hb => ?_, fun R hA hB hC m hm => hv.snd R (h.snd R hA hB hC) (hC n k hB he) hC m hm⟩
  by_cases e : o.getD m false = true
  · exact hv.mono _ (h.clo m e h2 b hb)
  · exact hv.clo m h1 (by simpa using e) b hb

section
variable {bs : List Bs} {nl : List Bool} {N : Nat} {Lb L0 : GHeap} {M : Nat → Prop} {so sT sN : Sl} {t1 t2 t3 : Addr}

theorem leads_visit (hok : ∀ x ∈ bs, BsOk N x) (hbl : bs.length ≤ 1048576) (hN : N ≤ 1048576) (m1 : Lb.mem t1 = some (.slice so.a so.n so.c)) (m2 : Lb.mem (t2.add 2) = some (.slice sT.a sT.n sT.c)) (m3 : Lb.mem (t2.add 3) = some (.slice sN.a sN.n sN.c))
    (m4 : Lb.mem t3 = some (.func (.func parlref2_Split_Leads_1.id) #[] (List.toArray [.pointer (some t1), .pointer (some t2), .pointer (some t3)])))
    (hT : IsSl (rS (rS rI)) Lb sT ((List.range N).map fun m : Nat => tosG bs (m : Int))) (hsN : IsSl rB Lb sN nl) (hnl : nl.length = N) :
    ∀ (d : Nat) (out : List Bool) (L : GHeap) (n : Int), out.count false = d → out.length = N → L.off M = Lb → PA Value.bool L0 L M so out → 0 ≤ n → n < N →
      ACalls PP parlref2_Split_Leads_1.id ([.int .i64 n] ++ [.pointer (some t1), .pointer (some t2), .pointer (some t3)]) L fun v L' => v = .tuple #[] ∧ L'.off M = Lb ∧ ∃ out', PA Value.bool L0 L' M so out' ∧ Vs (Ed bs nl) n out out' := by
  intro d
  induction d using Nat.strongRecOn with
  | ind d ih =>
  intro out L n hd hol hoff hpa hn0 hn1
  obtain ⟨nn, rfl⟩ := Int.eq_ofNat_of_zero_le hn0
  have up : ∀ {L' : GHeap}, L'.off M = Lb → LeM Lb L' := fun h => by rw [← h]; exact off_le
  have hlt : nn < out.length := by omega
  have hget : out[((nn : Nat) : Int).toNat]? = some out[nn] := by rw [Int.toNat_natCast]; exact List.getElem?_eq_getElem hlt
  apply parlref2_Split_Leads_1.go
  refine ⟨so, (up hoff).mem _ _ m1, hpa.getI hn0 hget fun a1 hc1 => ⟨_, hc1, bcI (fun ht => ?_) fun hfa => ?_⟩⟩
  · exact ⟨rfl, hoff, out, hpa, rfl, fun _ h => h, by rw [Int.toNat_natCast, getDB_get hlt]; exact ht, fun m h1 h2 => (by rw [h1] at h2; cases h2), fun R h _ _ => h⟩
  refine ⟨so, (up hoff).mem _ _ m1, hpa.setI hn0 (by rw [Int.toNat_natCast]; exact hlt) (x := true) rfl fun L1 hpa1 ho1 => ?_⟩
  have hoff1 : L1.off M = Lb := ho1.trans hoff
  rw [Int.toNat_natCast] at hget hpa1
  have hof : out.getD nn false = false := by rw [getDB_get hlt]; exact hfa
  have hfl : (out.set nn true).count false < d := by
    have := set_count (nl := out) (i := nn) (by rw [hget, hfa])
    omega
  have hol1 : (out.set nn true).length = N := by rw [List.length_set]; exact hol
  have h1get : ∀ m : Nat, (out.set nn true).getD m false = if m = nn then true else out.getD m false := fun m => getDB_set hlt m
  generalize out.set nn true = out1 at *
  have hrow : ((List.range N).map fun m : Nat => tosG bs (m : Int))[nn]? = some (tosG bs (nn : Int)) := by rw [List.getElem?_map, List.getElem?_range (by omega)]; rfl
  have htl := tosG_len (bs := bs) (m := (nn : Int))
  have hin : ∀ r, r ∈ tosG bs (nn : Int) ↔ ((nn : Int), r) ∈ bs := fun r => tosG_mem
  generalize tosG bs (nn : Int) = rows at *
  have hTn := hT.n
  rw [List.length_map, List.length_range] at hTn
  refine ⟨sT, (up hoff1).mem _ _ m2, getUp hT (up hoff1) hrow fun a cs hK hcc => ?_⟩
  obtain ⟨sr, rfl, hsr⟩ := hK
  have hsn := hsr.n
  refine ⟨sr, reads_one hcc, ?_⟩
  have outer : ∀ i, i ≤ rows.length → ∀ (L2 : GHeap) (o : List Bool), Vw (Ed bs nl) Lb L0 L2 M so N (nn : Int) out out1 o → (∀ k r, k < i → rows[k]? = some r → ∀ j b, StO nl ((nn : Int), r) j b → o.getD b.toNat false = true) →
      parlref2_Split_Leads_1.c3 (fun v L' => v = .tuple #[] ∧ L'.off M = Lb ∧ ∃ out', PA Value.bool L0 L' M so out' ∧ Vs (Ed bs nl) (nn : Int) out out') t2 t3 sr ((sr.n : Nat) : Int) ((i : Nat) : Int) L2 := by
    refine down ?_ ?_
    · intro L2 o h hdone
      apply parlref2_Split_Leads_1.go3
      refine bcD (fun hf => absurd hf (by omega)) fun _ => ⟨rfl, h.off, o, h.pa, by rw [h.len, hol], fun m hm => h.mono m (by rw [h1get]; split; rfl; exact hm), h.mono _ (by rw [h1get, Int.toNat_natCast, if_pos rfl]), fun m a1 a2 b hb => ?_, h.snd⟩
      by_cases e : m = nn
      · subst e
        obtain ⟨x, hx, hxa, j, hj⟩ := hb
        obtain ⟨xl, xr⟩ := x
        simp only at hxa
        subst hxa
        obtain ⟨k, hk⟩ := List.getElem?_of_mem ((hin xr).2 hx)
        exact hdone k xr (List.getElem?_eq_some_iff.1 hk).1 hk j b hj
      · exact h.clo m a1 (by rw [h1get, if_neg e]; exact a2) b hb
    · intro i hi ihi L2 o h hdone
      have hx := List.getElem?_eq_getElem hi
      have hxb := (hin _).1 (List.getElem_mem hi)
      generalize rows[i] = r at *
      have hb := hok _ hxb
      have hrl : r.length ≤ 2 := hb.len
      apply parlref2_Split_Leads_1.go3
      refine bcD (fun _ => ?_) fun hf => absurd (by omega) hf
      refine getUp hsr h.up hx fun a2 cs2 hK2 hcc2 => ?_
      obtain ⟨sx, rfl, hsx⟩ := hK2
      have hsxn := hsx.n
      refine ⟨sx, reads_one hcc2, ?_⟩
      have inner : ∀ j, j ≤ r.length → ∀ (L2 : GHeap) (o : List Bool), Vw (Ed bs nl) Lb L0 L2 M so N (nn : Int) out out1 o → (∀ k r, k < i → rows[k]? = some r → ∀ j b, StO nl ((nn : Int), r) j b → o.getD b.toNat false = true) → (∀ j' b, j' < j → StO nl ((nn : Int), r) j' b → o.getD b.toNat false = true) →
          parlref2_Split_Leads_1.c6 (fun v L' => v = .tuple #[] ∧ L'.off M = Lb ∧ ∃ out', PA Value.bool L0 L' M so out' ∧ Vs (Ed bs nl) (nn : Int) out out') t2 t3 sx sr ((sr.n : Nat) : Int) ((i : Nat) : Int) sx ((sx.n : Nat) : Int) ((j : Nat) : Int) L2 := by
        refine down ?_ ?_
        · intro L2 o h hdone hdn
          apply parlref2_Split_Leads_1.go6
          refine bcD (fun hf => absurd hf (by omega)) fun _ => ?_
          rw [add_one (by omega)]
          refine ihi L2 o h fun k r' hk hr' j b hs => ?_
          rcases Nat.lt_or_eq_of_le (Nat.le_of_lt_succ hk) with e | rfl
          · exact hdone k r' e hr' j b hs
          · rw [hx] at hr'
            injection hr' with hr'
            subst hr'
            exact hdn j b ((List.getElem?_eq_some_iff.1 hs.1).1) hs
        · intro j hj ihj L2 o h hdone hdn
          have hxj := List.getElem?_eq_getElem hj
          have hbm := hb.right _ (List.getElem_mem hj)
          generalize r[j] = y at *
          have next : ∀ (L3 : GHeap) (o3 : List Bool), Vw (Ed bs nl) Lb L0 L3 M so N (nn : Int) out out1 o3 → (∀ m : Nat, o.getD m false = true → o3.getD m false = true) → (StO nl ((nn : Int), r) j y → o3.getD y.toNat false = true) →
              parlref2_Split_Leads_1.c10 (fun v L' => v = .tuple #[] ∧ L'.off M = Lb ∧ ∃ out', PA Value.bool L0 L' M so out' ∧ Vs (Ed bs nl) (nn : Int) out out') t2 t3 sx sr ((sr.n : Nat) : Int) ((i : Nat) : Int) sx ((sx.n : Nat) : Int) ((j : Nat) : Int) L3 := by
            intro L3 o3 h3 hm3 hd3
            apply parlref2_Split_Leads_1.go10
            unfold parlref2_Split_Leads_1.t10
            rw [add_one (by omega)]
            refine ihj L3 o3 h3 (fun k r hk hr j b hs => hm3 _ (hdone k r hk hr j b hs)) fun j' b hj' hs => ?_
            rcases Nat.lt_or_eq_of_le (Nat.le_of_lt_succ hj') with e | rfl
            · exact hm3 _ (hdn j' b e hs)
            · have e := hs.1
              rw [hxj] at e
              injection e with e
              subst e
              exact hd3 hs
          have visit : StO nl ((nn : Int), r) j y → parlref2_Split_Leads_1.c9 (fun v L' => v = .tuple #[] ∧ L'.off M = Lb ∧ ∃ out', PA Value.bool L0 L' M so out' ∧ Vs (Ed bs nl) (nn : Int) out out') t2 t3 sx y sr ((sr.n : Nat) : Int) ((i : Nat) : Int) sx ((sx.n : Nat) : Int) ((j : Nat) : Int) L2 := by
            intro hst
            apply parlref2_Split_Leads_1.go9
            refine ⟨parlref2_Split_Leads_1.id, [.pointer (some t1), .pointer (some t2), .pointer (some t3)], h.up.mem _ _ m4, ?_⟩
            have hf3 : o.count false < d := Nat.lt_of_le_of_lt (falsesU (by rw [h.len, hol1]) h.mono) hfl
            refine (ih _ hf3 o L2 y rfl h.len h.off h.pa hbm.1 hbm.2).mono ?_
            rintro v L4 ⟨rfl, b1, out4, b2, bv⟩
            exact ⟨rfl, next L4 out4 (h.go b1 b2 bv ⟨_, hxb, rfl, j, hst⟩) bv.mono fun _ => bv.has⟩
          apply parlref2_Split_Leads_1.go6
          refine bcD (fun _ => ?_) fun hf => absurd (by omega) hf
          refine getUp hsx h.up hxj fun a3 cs3 hK3 hcc3 => ?_
          obtain rfl := hK3
          refine ⟨y, reads_one hcc3, bcE (fun h1 => visit ⟨hxj, .inl (by show r.length = 1; omega)⟩) fun h1 => ?_⟩
          have h2 : r.length = 2 := by omega
          have hw : w64 ((1 : Int) - ((j : Nat) : Int)) = ((1 - j : Nat) : Int) := by rw [w64_in (by omega) (by omega)]; omega
          have hxo := List.getElem?_eq_getElem (show 1 - j < r.length by omega)
          have hom := hb.right _ (List.getElem_mem (show 1 - j < r.length by omega))
          generalize r[1 - j]'(show 1 - j < r.length by omega) = z at *
          rw [hw]
          refine ⟨sN, h.up.mem _ _ m3, getUp hsx h.up hxo fun a4 cs4 hK4 hcc4 => ?_⟩
          obtain rfl := hK4
          obtain ⟨zn, rfl⟩ := Int.eq_ofNat_of_zero_le hom.1
          obtain ⟨v, hv, hi⟩ := isN_get (nl := nl) hom.1 (by rw [hnl]; exact hom.2)
          rw [Int.toNat_natCast] at hv
          refine ⟨_, reads_one hcc4, getUp hsN h.up hv fun a5 cs5 hK5 hcc5 => ?_⟩
          obtain rfl := hK5
          refine ⟨v, reads_one hcc5, bcI (fun hvt => visit ⟨hxj, .inr ⟨_, hxo, hi.2 hvt⟩⟩) fun hvf => next L2 o h (fun _ hm => hm) fun hst => ?_⟩
          rcases hst.2 with e | ⟨m, e, hm⟩
          · exact absurd e (by show r.length ≠ 1; omega)
          · have e' : r[1 - j]? = some m := e
            rw [hxo] at e'
            injection e' with e'
            subst e'
            rw [hi.1 hm] at hvf
            cases hvf
      exact inner 0 (Nat.zero_le _) L2 o h hdone fun j' b hj' => absurd hj' (Nat.not_lt_zero _)
  refine outer 0 (Nat.zero_le _) L1 out1 ⟨hoff1, hpa1, hol1, fun _ h => h, fun m h1 h2 => (by rw [h1] at h2; cases h2), fun R hA hB hC m hm => ?_⟩ fun k r hk => absurd hk (Nat.not_lt_zero _)
  rw [h1get] at hm
  split at hm
  · rename_i e; rw [e]; exact hB
  · exact hA m hm
end
end Go.Proofs.YtcnkbjipogngaaaDoor.NormS

