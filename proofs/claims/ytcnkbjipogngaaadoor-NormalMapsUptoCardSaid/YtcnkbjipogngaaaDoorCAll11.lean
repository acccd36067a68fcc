/- Contracts of the program's functions. -/
import Derived.Test.YtcnkbjipogngaaaDoorCAll10
import Derived.Test.YtcnkbjipogngaaaDoorCAll6
set_option linter.all false
namespace Go.Proofs.YtcnkbjipogngaaaDoor.NormS
open Go Go.Proofs.YtcnkbjipogngaaaDoor.GH

structure P3 (L0 L H : GHeap) (V : PVs) (bN : Nat) (nl : List Bool) : Prop where
  pm : PM L0 L V
  vN : V bN = some (nl.map Value.bool)
  off : L.off (inV V) = H

section
variable {L0 L H : GHeap} {V : PVs} {bN : Nat} {nl : List Bool}
theorem P3.leM (h : P3 L0 L H V bN nl) : LeM H L := by rw [← h.off]; exact off_le
theorem P3.get (h : P3 L0 L H V bN nl) {k : Nat} {x : Bool} (hx : nl[k]? = some x) : L.mem ((⟨bN, 0, none⟩ : Addr).add (Int.toNat ((k : Nat) : Int) * 1)) = some (.bool x) := by
  rw [Int.toNat_natCast, Nat.mul_one]
  refine h.pm.mem h.vN ?_
  rw [List.getElem?_map, hx]; rfl
theorem P3.set (h : P3 L0 L H V bN nl) {k : Nat} (hk : k < nl.length) (x : Bool) :
    L.may ((⟨bN, 0, none⟩ : Addr).add (Int.toNat ((k : Nat) : Int) * 1)) 0 1 ∧ ∃ V', P3 L0 (L.sets ((⟨bN, 0, none⟩ : Addr).add (Int.toNat ((k : Nat) : Int) * 1)) 0 [.bool x]) H V' bN (nl.set k x) := by
  rw [Int.toNat_natCast, Nat.mul_one]
  obtain ⟨k1, k2, k3⟩ := h.pm.set h.vN (o := k) (by rw [List.length_map]; exact hk) (.bool x)
  refine ⟨k1, _, k2, by rw [putV_self, List.map_set], ?_⟩
  rw [inV_put h.vN, k3]; exact h.off
end

theorem any_not {nl : List Bool} {r : List Int} : (r.any fun m => !decide (isN nl m)) = false ↔ ∀ m ∈ r, isN nl m := by
  rw [List.any_eq_false]
  exact ⟨fun h m hm => by have := h m hm; simpa using this, fun h m hm => by have := h m hm; simpa using this⟩

theorem nullFn {L : GHeap} {b3 c N : Nat} {nl : List Bool} (h3 : L.mem ((⟨b3, 0, none⟩ : Addr).add 3) = some (.slice (some ⟨c, 0, none⟩) N N)) (hl : nl.length = N) {m : Int} (h0 : 0 ≤ m) (hm : m < N)
    (hb : ∀ x, nl[m.toNat]? = some x → L.mem ((⟨c, 0, none⟩ : Addr).add (Int.toNat ((m.toNat : Nat) : Int) * 1)) = some (.bool x)) :
    RO PP parlref2_SplitOf_2.id ([.int .i64 m] ++ [.pointer (some ⟨b3, 0, none⟩)]) L (.bool (!decide (isN nl m))) := by
  obtain ⟨v, hv, hi⟩ := isN_get (nl := nl) h0 (by rw [hl]; exact hm)
  have hmem := hb v hv
  obtain ⟨k, rfl⟩ := Int.eq_ofNat_of_zero_le h0
  rw [Int.toNat_natCast] at hmem
  apply parlref2_SplitOf_2.go
  refine ⟨⟨some ⟨c, 0, none⟩, N, N⟩, h3, ⟨h0, hm⟩, v, hmem, ?_, rfl⟩
  congr 1
  have : decide (isN nl (k : Int)) = v := by
    cases v with
    | true => exact decide_eq_true (hi.2 rfl)
    | false => exact decide_eq_false fun h => by have := hi.1 h; cases this
  rw [this]

theorem spl_nulls {K : Value → GHeap → Prop} {L0 H : GHeap} {bs : List Bs} {N b3 bN : Nat} {sT : Sl} {T u0 u1 : Int} {u2 u3 : Sl} (hok : ∀ x ∈ bs, BsOk N x) (hbl : bs.length ≤ 1048576) (hN : N ≤ 1048576)
    (hr : H.reads ⟨b3, 0, none⟩ 0 [.int .i64 (N : Int), .int .i64 T, .slice sT.a sT.n sT.c, .slice (some ⟨bN, 0, none⟩) N N])
    (hT : IsSl (rS (rS rI)) H sT ((List.range N).map fun m : Nat => tosG bs (m : Int)))
    (hend : ∀ (L : GHeap) (V : PVs) (nl : List Bool), P3 L0 L H V bN nl → NullOk N bs nl → K (.agg #[.int .i64 (N : Int), .int .i64 T, .slice sT.a sT.n sT.c, .slice (some ⟨bN, 0, none⟩) N N]) L) :
    ∀ t, t ≤ N → ∀ (L : GHeap) (V : PVs) (nl : List Bool), P3 L0 L H V bN nl → nl.length = N → (∀ m, isN nl m → DerE bs m) → ((∀ x ∈ bs, Clo nl x) ∨ nl.count false + t ≤ N) →
      parlref2_SplitOf.c42 K ⟨b3, 0, none⟩ ((N : Nat) : Int) ((t : Nat) : Int) u0 u1 u2 u3 L := by
  have h2 : H.mem ((⟨b3, 0, none⟩ : Addr).add 2) = some (.slice sT.a sT.n sT.c) := by
    have := reads_iff.1 hr 2 _ rfl
    simpa using this
  have h3 : H.mem ((⟨b3, 0, none⟩ : Addr).add 3) = some (.slice (some ⟨bN, 0, none⟩) N N) := by
    have := reads_iff.1 hr 3 _ rfl
    simpa using this
  have hTn := hT.n
  rw [List.length_map, List.length_range] at hTn
  refine down ?_ ?_
  · intro L V nl h hl hs hc
    apply parlref2_SplitOf.go42
    refine bcD (fun hf => absurd hf (by omega)) fun _ => ?_
    refine ⟨_, _, sT, ⟨some ⟨bN, 0, none⟩, N, N⟩, h.leM.reads hr, hend L V nl h ⟨hl, hs, ?_⟩⟩
    rcases hc with hc | hc
    · exact hc
    · intro x hx _
      have h0 : nl.count false = 0 := by omega
      have hb := (hok x hx).left
      obtain ⟨v, hv, hi⟩ := isN_get (nl := nl) hb.1 (by rw [hl]; exact hb.2)
      refine hi.2 ?_
      cases v with
      | true => rfl
      | false => exact absurd (List.mem_of_getElem? hv) (List.count_eq_zero.1 h0)
  · intro t ht ih L V nl0 h hl0 hs0 hc0
    apply parlref2_SplitOf.go42
    refine bcD (fun _ => ?_) fun hf => absurd (by omega) hf
    refine ⟨sT, h.leM.mem _ _ h2, ?_⟩
    have seen : ∀ n : Nat, n ≤ N → (List.range n).flatMap (fun m : Nat => (tosG bs (m : Int)).map fun r => ((m : Int), r)) = (List.range n).flatMap fun m : Nat => (tosG bs (m : Int)).map fun r => ((m : Int), r) := fun _ _ => rfl
    have outer : ∀ n, n ≤ N → ∀ (L : GHeap) (V : PVs) (nl : List Bool) (again : Bool), P3 L0 L H V bN nl → Pass N bs nl0 nl again ((List.range n).flatMap fun m : Nat => (tosG bs (m : Int)).map fun r => ((m : Int), r)) → ((∀ x ∈ bs, Clo nl0 x) → again = false) →
        parlref2_SplitOf.c44 K ⟨b3, 0, none⟩ ((N : Nat) : Int) ((t : Nat) : Int) sT ((sT.n : Nat) : Int) ((n : Nat) : Int) u0 u1 u2 u3 L := by
      refine down ?_ ?_
      · intro L V nl again h hp hca
        apply parlref2_SplitOf.go44
        refine bcD (fun hf => absurd hf (by omega)) fun _ => ?_
        rw [add_one (by omega)]
        refine ih L V nl h hp.len hp.sound ?_
        cases again with
        | false =>
          left
          intro x hx
          refine (hp.no rfl).2 x ?_
          have hb := (hok x hx).left
          obtain ⟨l, r⟩ := x
          obtain ⟨k, rfl⟩ := Int.eq_ofNat_of_zero_le hb.1
          simp only at hb
          exact List.mem_flatMap.2 ⟨k, List.mem_range.2 (by omega), List.mem_map.2 ⟨r, tosG_mem.2 hx, rfl⟩⟩
        | true =>
          right
          have := hp.yes rfl
          rcases hc0 with hc0 | hc0
          · exact absurd (hca hc0) (by simp)
          · omega
      · intro n hn ihn L V nl again h hp hca
        rw [List.range_succ, List.flatMap_append] at ihn
        simp only [List.flatMap_cons, List.flatMap_nil, List.append_nil] at ihn
        have hrow : ((List.range N).map fun m : Nat => tosG bs (m : Int))[n]? = some (tosG bs (n : Int)) := by rw [List.getElem?_map, List.getElem?_range hn]; rfl
        have htl := tosG_len (bs := bs) (m := (n : Int))
        have hin : ∀ r ∈ tosG bs (n : Int), ((n : Int), r) ∈ bs := fun r hr => tosG_mem.1 hr
        generalize tosG bs (n : Int) = rows at *
        generalize ((List.range n).flatMap fun m : Nat => (tosG bs (m : Int)).map fun r => ((m : Int), r)) = pre at *
        apply parlref2_SplitOf.go44
        refine bcD (fun _ => ?_) fun hf => absurd (by omega) hf
        refine getUp hT h.leM hrow fun a cs hK hcc => ?_
        obtain ⟨sr, rfl, hsr⟩ := hK
        have hsn := hsr.n
        refine ⟨sr, reads_one hcc, ?_⟩
        have inner : ∀ j, j ≤ rows.length → ∀ (L : GHeap) (V : PVs) (nl : List Bool) (again : Bool), P3 L0 L H V bN nl → Pass N bs nl0 nl again (pre ++ (rows.take j).map fun r => ((n : Int), r)) → ((∀ x ∈ bs, Clo nl0 x) → again = false) →
            parlref2_SplitOf.c47 K ⟨b3, 0, none⟩ ((n : Nat) : Int) ((N : Nat) : Int) ((t : Nat) : Int) sT ((sT.n : Nat) : Int) ((n : Nat) : Int) sr ((sr.n : Nat) : Int) ((j : Nat) : Int) u0 u1 u2 u3 L := by
          refine down ?_ ?_
          · intro L V nl again h hp hca
            rw [List.take_length] at hp
            apply parlref2_SplitOf.go47
            refine bcD (fun hf => absurd hf (by omega)) fun _ => ?_
            rw [add_one (by omega)]
            exact ihn L V nl again h hp hca
          · intro j hj ihj L V nl again h hp hca
            have hx := List.getElem?_eq_getElem hj
            have hxb := hin _ (List.getElem_mem hj)
            rw [List.take_succ_eq_append_getElem hj, List.map_append, ← List.append_assoc] at ihj
            generalize rows[j] = r at *
            have hb := hok _ hxb
            have hleft := hb.left
            simp only at hleft
            have next : ∀ (L : GHeap) (V : PVs) (nl : List Bool) (again : Bool), P3 L0 L H V bN nl → Pass N bs nl0 nl again ((pre ++ (rows.take j).map fun r => ((n : Int), r)) ++ [((n : Int), r)]) → ((∀ x ∈ bs, Clo nl0 x) → again = false) →
                parlref2_SplitOf.c51 K ⟨b3, 0, none⟩ ((n : Nat) : Int) ((N : Nat) : Int) ((t : Nat) : Int) sT ((sT.n : Nat) : Int) ((n : Nat) : Int) sr ((sr.n : Nat) : Int) ((j : Nat) : Int) u0 u1 u2 u3 L := by
              intro L V nl again h hp hca
              apply parlref2_SplitOf.go51
              unfold parlref2_SplitOf.t51
              rw [add_one (by omega)]
              exact ihj L V nl again h hp hca
            apply parlref2_SplitOf.go47
            refine bcD (fun _ => ?_) fun hf => absurd (by omega) hf
            refine getUp hsr h.leM hx fun a2 cs2 hK2 hcc2 => ?_
            obtain ⟨sx, rfl, hsx⟩ := hK2
            have hlen := hp.len
            refine ⟨sx, reads_one hcc2, (ContainsFuncI_ro (p := fun m => !decide (isN nl m)) (hsx.mono h.leM) (by show r.length ≤ 1048576; have : r.length ≤ 2 := hb.len; omega) fun m hm => ?_).use ⟨_, rfl, keep_refl _, inLI ?_⟩⟩
            · have hmr := hb.right m hm
              exact nullFn (h.leM.mem _ _ h3) hlen hmr.1 hmr.2 fun x hx => h.get hx
            refine bcN (bcI (fun hany => ?_) fun hany => ?_)
            · rw [List.any_eq_true] at hany
              obtain ⟨m, hm, hmn⟩ := hany
              exact next L V nl again h (hp.skip fun hall => absurd (hall m hm) (by simpa using hmn)) hca
            · have hall := any_not.1 hany
              have hnl : n < nl.length := by rw [hlen]; exact hn
              obtain ⟨k1, V', k2⟩ := h.set hnl true
              refine ⟨⟨some ⟨bN, 0, none⟩, N, N⟩, h.leM.mem _ _ h3, ⟨by omega, by show (n : Int) < ((N : Nat) : Int); omega⟩, k1, inLI ?_⟩
              cases hv : nl[n] with
              | true =>
                have hset : nl.set n true = nl := by
                  conv => lhs; rw [← hv]
                  exact List.set_getElem_self hnl
                rw [hset] at k2
                refine next _ V' nl again k2 (hp.skip fun _ => ?_) hca
                exact ⟨by simp only; omega, by rw [Int.toNat_natCast, List.getElem?_eq_getElem hnl, hv]⟩
              | false =>
                have h0 : nl[((n : Int), r).1.toNat]? = some false := by show nl[Int.toNat (n : Int)]? = _; rw [Int.toNat_natCast, List.getElem?_eq_getElem hnl, hv]
                refine next _ V' _ true k2 (hp.add (x := ((n : Int), r)) hxb h0 hall (by simp only; omega)) fun hcl => ?_
                have ha := hca hcl
                have he := (hp.no ha).1
                have := hcl _ hxb (by rw [← he]; exact hall)
                rw [← he] at this
                have := this.2
                rw [h0] at this
                cases this
        exact inner 0 (Nat.zero_le _) L V nl again h (by simpa using hp) hca
    exact outer 0 (Nat.zero_le _) L V nl0 false h ⟨hl0, hs0, fun _ => ⟨rfl, fun x hx => by simp at hx⟩, (fun h => by cases h), Nat.le_refl _⟩ fun _ => rfl
end Go.Proofs.YtcnkbjipogngaaaDoor.NormS

namespace Go.Proofs.YtcnkbjipogngaaaDoor.NormS
open Go Go.Proofs.YtcnkbjipogngaaaDoor.GH

theorem cellsI (L : GHeap) : ∀ xs : List Int, Cells rI L (xs.map (Value.int .i64)) xs
  | [] => .nil
  | x :: xs => Cells.cons (R := rI) (c := [.int .i64 x]) (x := x) rfl (cellsI L xs)
theorem cellsB (L : GHeap) : ∀ xs : List Bool, Cells rB L (xs.map Value.bool) xs
  | [] => .nil
  | x :: xs => Cells.cons (R := rB) (c := [.bool x]) (x := x) rfl (cellsB L xs)
theorem cellsS {α : Type} {R : Rp α} {L : GHeap} : ∀ (ss : List Sl) (xss : List (List α)), ss.length = xss.length → (∀ (m : Nat) (s : Sl) (xs : List α), ss[m]? = some s → xss[m]? = some xs → IsSl R L s xs) → Cells (rS R) L (ss.map fSl) xss
  | [], [], _, _ => .nil
  | s :: ss, xs :: xss, hl, h => Cells.cons (R := rS R) (c := [.slice s.a s.n s.c]) (x := xs) ⟨s, rfl, h 0 s xs rfl rfl⟩ (cellsS ss xss (by simpa using hl) fun m s xs h1 h2 => h (m + 1) s xs (by simpa using h1) (by simpa using h2))
  | [], _ :: _, hl, _ => by simp at hl
  | _ :: _, [], hl, _ => by simp at hl

theorem zeros_rep (n : Nat) (v : Value) : zeros n [v] = List.replicate n v := by
  unfold zeros
  induction n with
  | zero => rfl
  | succ n ih => rw [List.replicate_succ, List.flatten_cons, ih, List.replicate_succ]; rfl

theorem pm_ne {L0 L : GHeap} {V : PVs} (h : PM L0 L V) {c b : Nat} (hu : L.unused c) {vs : List Value} (hb : V b = some vs) : b ≠ c := fun e => h.live.not hu (by rw [← e]; exact inV_of hb)

theorem dropV_self {V : PVs} {b : Nat} : dropV V b b = none := by unfold dropV; rw [if_pos rfl]

theorem pm_setAll {L0 L : GHeap} {V : PVs} {b : Nat} {vs : List Value} (h : PM L0 L V) (hb : V b = some vs) {ws : List Value} (hw : ws.length = vs.length) :
    L.may (⟨b, 0, none⟩ : Addr) 0 ws.length ∧ PM L0 (L.sets ⟨b, 0, none⟩ 0 ws) (putV V b ws) ∧ (L.sets ⟨b, 0, none⟩ 0 ws).off (inV V) = L.off (inV V) := by
  have hp := (h.pv b vs hb).1
  have hf : 0 + ws.length ≤ vs.length := by omega
  have hoff : (L.sets ⟨b, 0, none⟩ 0 ws).off (inV V) = L.off (inV V) := off_sets (inV_of hb)
  refine ⟨hp.may hf, ⟨fun c xs hc => ?_, ?_⟩, hoff⟩
  · by_cases e : c = b
    · subst e
      rw [putV_self] at hc
      injection hc with hc
      subst hc
      have h1 := (hp.set hf).1
      have e2 : splice vs 0 ws = ws := by
        unfold splice
        rw [List.take_zero, List.nil_append, Nat.zero_add, List.drop_eq_nil_of_le (by omega), List.append_nil]
      rw [e2] at h1
      exact ⟨h1, by have := (h.pv _ _ hb).2; omega⟩
    · rw [putV_ne e] at hc
      obtain ⟨h1, h2⟩ := h.pv c xs hc
      exact ⟨h1.same (M := (· = c)) (SameOn.sets fun e' => e e'.symm) rfl, h2⟩
  · rw [inV_put hb, hoff]; exact h.le

structure P1 (L0 L : GHeap) (V : PVs) (g : Gram) (b3 bR : Nat) (c : Int) (i : Nat) (rr : List Sl) : Prop where
  pm : PM L0 L V
  v3 : V b3 = some [.int .i64 c, .int .i64 0, .slice none 0 0, .slice none 0 0]
  vR : 0 < rr.length → V bR = some (rr.map fSl)
  nR : bR ≠ b3
  len : rr.length = g.rules.length
  rows : ∀ (k : Nat) (s : Sl), k < i → rr[k]? = some s → ∃ row, (restsL g.nons g.rules)[k]? = some row ∧ IsSl rI (L.off (inV V)) s row

section
variable {L0 L : GHeap} {V : PVs} {g : Gram} {b3 bR : Nat} {c : Int} {i : Nat} {rr : List Sl}

theorem P1.setRow (h : P1 L0 L V g b3 bR c i rr) (hi : i < rr.length) (s : Sl) :
    L.may ((⟨bR, 0, none⟩ : Addr).add (Int.toNat ((i : Nat) : Int) * 1)) 0 1 ∧ ∃ V', P1 L0 (L.sets ((⟨bR, 0, none⟩ : Addr).add (Int.toNat ((i : Nat) : Int) * 1)) 0 [.slice s.a s.n s.c]) V' g b3 bR c i (rr.set i s) ∧ (∀ d, d ≠ bR → V' d = V d) := by
  rw [Int.toNat_natCast, Nat.mul_one]
  have hR := h.vR (by omega)
  obtain ⟨k1, k2, k3⟩ := h.pm.set hR (o := i) (by rw [List.length_map]; exact hi) (.slice s.a s.n s.c)
  refine ⟨k1, _, ⟨k2, by rw [putV_ne h.nR.symm]; exact h.v3, fun _ => by rw [putV_self, List.map_set], h.nR, by rw [List.length_set]; exact h.len, fun k t hk ht => ?_⟩, fun d hd => putV_ne hd⟩
  rw [List.getElem?_set_ne (by omega)] at ht
  rw [inV_put hR, k3]
  exact h.rows k t hk ht

theorem P1.head (h : P1 L0 L V g b3 bR c i rr) {k : Nat} {s : Sl} (hs : rr[k]? = some s) : L.mem ((⟨bR, 0, none⟩ : Addr).add (Int.toNat ((k : Nat) : Int) * 1)) = some (.slice s.a s.n s.c) := by
  rw [Int.toNat_natCast, Nat.mul_one]
  refine h.pm.mem (h.vR (by have := (List.getElem?_eq_some_iff.1 hs).1; omega)) ?_
  rw [List.getElem?_map, hs]; rfl

structure PR (L0 L : GHeap) (V : PVs) (g : Gram) (b3 bR : Nat) (c : Int) (i : Nat) (rr : List Sl) (bX n : Nat) (row : List Int) : Prop where
  p : P1 L0 L V g b3 bR c i rr
  vX : V bX = some (row.map (Value.int .i64))
  n3 : bX ≠ b3
  nR : bX ≠ bR
  hd : rr[i]? = some ⟨some ⟨bX, 0, none⟩, n, n⟩
  len : row.length = n

theorem PR.cell {bX n : Nat} {row : List Int} (h : PR L0 L V g b3 bR c i rr bX n row) {j : Nat} (hj : j < n) (x : Int) :
    L.may ((⟨bX, 0, none⟩ : Addr).add (Int.toNat ((j : Nat) : Int) * 1)) 0 1 ∧ ∃ V', PR L0 (L.sets ((⟨bX, 0, none⟩ : Addr).add (Int.toNat ((j : Nat) : Int) * 1)) 0 [.int .i64 x]) V' g b3 bR c i rr bX n (row.set j x) := by
  rw [Int.toNat_natCast, Nat.mul_one]
  obtain ⟨k1, k2, k3⟩ := h.p.pm.set h.vX (o := j) (by rw [List.length_map, h.len]; exact hj) (.int .i64 x)
  refine ⟨k1, _, ⟨⟨k2, by rw [putV_ne h.n3.symm]; exact h.p.v3, fun hp => by rw [putV_ne h.nR.symm]; exact h.p.vR hp, h.p.nR, h.p.len, fun k t hk ht => ?_⟩, by rw [putV_self, List.map_set], h.n3, h.nR, h.hd, by rw [List.length_set]; exact h.len⟩⟩
  rw [inV_put h.vX, k3]
  exact h.p.rows k t hk ht

theorem PR.leaf {bX n : Nat} {row : List Int} (h : PR L0 L V g b3 bR c i rr bX n row) (c' : Int) :
    L.may (⟨b3, 0, none⟩ : Addr) 0 1 ∧ ∃ V', PR L0 (L.sets (⟨b3, 0, none⟩ : Addr) 0 [.int .i64 c']) V' g b3 bR c' i rr bX n row := by
  have k := h.p.pm.set h.p.v3 (o := 0) (by simp) (.int .i64 c')
  rw [add_zero] at k
  obtain ⟨k1, k2, k3⟩ := k
  refine ⟨k1, _, ⟨⟨k2, by rw [putV_self]; rfl, fun hp => by rw [putV_ne h.p.nR]; exact h.p.vR hp, h.p.nR, h.p.len, fun k t hk ht => ?_⟩, by rw [putV_ne h.n3]; exact h.vX, h.n3, h.nR, h.hd, h.len⟩⟩
  rw [inV_put h.p.v3, k3]
  exact h.p.rows k t hk ht

theorem PR.done {bX n : Nat} {row : List Int} (h : PR L0 L V g b3 bR c i rr bX n row) (hr : (restsL g.nons g.rules)[i]? = some row) : ∃ V', P1 L0 L V' g b3 bR c (i + 1) rr := by
  obtain ⟨k1, k2, k3⟩ := h.p.pm.free h.vX
  refine ⟨_, k1, by rw [dropV_ne h.n3.symm]; exact h.p.v3, fun hp => by rw [dropV_ne h.nR.symm]; exact h.p.vR hp, h.p.nR, h.p.len, fun k t hk ht => ?_⟩
  by_cases e : k = i
  · subst e
    rw [h.hd] at ht
    injection ht with ht
    subst ht
    exact ⟨row, hr, IsSl.of_cells (cellsI _ row) h.len.symm (Nat.le_refl _) k3⟩
  · obtain ⟨r', g1, g2⟩ := h.p.rows k t (by omega) ht
    exact ⟨r', g1, g2.mono k2.toLeM⟩
end

theorem rowJ_skip {c : Int} {n j : Nat} (h : ¬ (1 ≤ j ∧ j + 1 < n)) : rowJ c n (j + 1) = rowJ c n j := by
  unfold rowJ
  refine List.map_congr_left fun i hi => ?_
  by_cases e : i = j
  · subst e; rw [if_neg (by omega), if_neg (by omega)]
  · have : (i < j + 1) ↔ i < j := by omega
    simp only [this]

theorem spl_rests {K : Value → GHeap → Prop} {L0 : GHeap} {g : Gram} {sg : Sl} {b3 bR : Nat} {u0 u1 : Int} {u2 u3 : Sl} (hv : Valid g) (hs : IsSl rRule L0 sg g.rules)
    (hnext : ∀ (L : GHeap) (V : PVs) (rr : List Sl), P1 L0 L V g b3 bR (nT g) g.rules.length rr → parlref2_SplitOf.c4 K ⟨b3, 0, none⟩ (reS g bR) ((sg.n : Nat) : Int) ((g.rules.length : Nat) : Int) g.terms g.nons g.start sg u0 u1 u2 u3 L) :
    ∀ i, i ≤ g.rules.length → ∀ (L : GHeap) (V : PVs) (rr : List Sl), P1 L0 L V g b3 bR (g.nons + (extS (g.rules.take i) : Nat)) i rr →
      parlref2_SplitOf.c4 K ⟨b3, 0, none⟩ (reS g bR) ((sg.n : Nat) : Int) ((i : Nat) : Int) g.terms g.nons g.start sg u0 u1 u2 u3 L := by
  have hn := hs.n
  have hmany := hv.many
  have ht := hv.terms
  have hno := hv.nons
  refine down ?_ ?_
  · intro L V rr h
    rw [List.take_length] at h
    exact hnext L V rr h
  · intro i hi ih L V rr h
    have hx := List.getElem?_eq_getElem hi
    have hr4 := (hv.ok _ (List.getElem_mem hi)).2
    have he := extS_le hv i
    have he' := extS_le hv (i + 1)
    have hrow := restsL_get (c := g.nons) hi
    rw [extS_take hi] at ih he'
    generalize g.rules[i] = r at *
    generalize hn' : r.right.length = n at *
    have hex : exR r = n - 2 := by unfold exR; rw [hn']
    rw [hex] at ih he'
    generalize hc : g.nons + (extS (g.rules.take i) : Nat) = c at *
    have hil : i < rr.length := by rw [h.len]; exact hi
    have fin : ∀ (L : GHeap) (V : PVs) (rr : List Sl), P1 L0 L V g b3 bR (c + ((n - 2 : Nat) : Int)) (i + 1) rr → parlref2_SplitOf.c4 K ⟨b3, 0, none⟩ (reS g bR) ((sg.n : Nat) : Int) (w64 (((i : Nat) : Int) + 1)) g.terms g.nons g.start sg u0 u1 u2 u3 L := by
      intro L V rr h
      rw [add_one (by omega)]
      refine ih L V rr ?_
      have e : g.nons + ((extS (g.rules.take i) + (n - 2) : Nat) : Int) = c + ((n - 2 : Nat) : Int) := by omega
      rw [e]; exact h
    apply parlref2_SplitOf.go4
    refine bcD (fun _ => ?_) fun h => absurd (by omega) h
    refine getUp hs h.pm.leL.toLeM hx fun a cs hK hcc => ?_
    obtain ⟨st, rfl, hst⟩ := hK
    have hstn := hst.n
    rw [hn'] at hstn
    have hm1 := reads_iff.1 hcc 1 _ rfl
    refine ⟨st, by rw [Nat.zero_add] at hm1; exact hm1, ⟨by omega, by omega, by omega⟩, ?_⟩
    intro b44 hu
    rw [Int.toNat_natCast, Nat.mul_one, hstn]
    refine inLI ⟨⟨by omega, by show (i : Int) < ((g.rules.length : Nat) : Int); omega⟩, ?_⟩
    rcases Nat.eq_zero_or_pos n with h0 | h0
    · subst h0
      obtain ⟨p1, p2, p3⟩ := h.pm.alloc hu (zeros 0 [.int .i64 0]) 0
      have h1 : P1 L0 (L.alloc b44 (zeros 0 [.int .i64 0]) 0) V g b3 bR c i rr := ⟨p1, h.v3, h.vR, h.nR, h.len, fun k s hk hs' => by
        obtain ⟨row, g1, g2⟩ := h.rows k s hk hs'
        exact ⟨row, g1, by rw [p2]; exact g2.mono (Le.alloc p3 _ _).toLeM⟩⟩
      obtain ⟨m1, V', h2, _⟩ := h1.setRow hil ⟨some ⟨b44, 0, none⟩, 0, 0⟩
      refine ⟨m1, inLI ?_⟩
      apply parlref2_SplitOf.go9
      refine bcD (fun h => absurd h (by decide)) fun _ => fin _ V' (rr.set i ⟨some ⟨b44, 0, none⟩, 0, 0⟩) ?_
      have e : c + ((0 - 2 : Nat) : Int) = c := by omega
      rw [e]
      refine ⟨h2.pm, h2.v3, h2.vR, h2.nR, h2.len, fun k s hk hs' => ?_⟩
      by_cases ek : k = i
      · subst ek
        rw [List.getElem?_set, if_pos rfl, if_pos hil] at hs'
        injection hs' with hs'
        subst hs'
        exact ⟨_, hrow, .nil _ _ _ _⟩
      · exact h2.rows k s (by omega) hs'
    · -- a row of cells
      have hz : zeros n [Value.int .i64 0] = (rowJ c n 0).map (Value.int .i64) := by
        rw [zeros_rep]
        have : rowJ c n 0 = List.replicate n 0 := by rw [← rowJ_one c n, rowJ_skip (by omega)]
        rw [this, List.map_replicate]
      have hn3 := pm_ne h.pm hu h.v3
      have hnR := pm_ne h.pm hu (h.vR (by omega))
      obtain ⟨p1, p2⟩ := h.pm.new hu (cs := (rowJ c n 0).map (Value.int .i64)) (n := n) (by rw [List.length_map, rowJ_len]; exact h0) (by rw [List.length_map, rowJ_len]; exact Nat.le_refl _)
      rw [hz]
      have h1 : P1 L0 (L.alloc b44 ((rowJ c n 0).map (Value.int .i64)) n) (putV V b44 ((rowJ c n 0).map (Value.int .i64))) g b3 bR c i rr := ⟨p1, by rw [putV_ne hn3]; exact h.v3, fun hp => by rw [putV_ne hnR]; exact h.vR hp, h.nR, h.len, fun k s hk hs' => by
        obtain ⟨row, g1, g2⟩ := h.rows k s hk hs'
        exact ⟨row, g1, by rw [p2]; exact g2⟩⟩
      obtain ⟨m1, V', h2, hV⟩ := h1.setRow hil ⟨some ⟨b44, 0, none⟩, n, n⟩
      refine ⟨m1, inLI ?_⟩
      have hR : PR L0 ((L.alloc b44 ((rowJ c n 0).map (Value.int .i64)) n).sets ((⟨bR, 0, none⟩ : Addr).add (Int.toNat ((i : Nat) : Int) * 1)) 0 [.slice (some ⟨b44, 0, none⟩) n n]) V' g b3 bR c i (rr.set i ⟨some ⟨b44, 0, none⟩, n, n⟩) b44 n (rowJ c n 0) :=
        ⟨h2, by rw [hV _ hnR.symm, putV_self], hn3.symm, hnR.symm, by rw [List.getElem?_set, if_pos rfl, if_pos hil], rowJ_len⟩
      have hsub : w64 (((n : Nat) : Int) - 2) = ((n : Nat) : Int) - 2 := w64_in (by omega) (by omega)
      generalize ((L.alloc b44 ((rowJ c n 0).map (Value.int .i64)) n).sets ((⟨bR, 0, none⟩ : Addr).add (Int.toNat ((i : Nat) : Int) * 1)) 0 [.slice (some ⟨b44, 0, none⟩) n n]) = L2 at *
      generalize rr.set i ⟨some ⟨b44, 0, none⟩, n, n⟩ = rr2 at *
      have key : ∀ j, j ≤ n → ∀ (L : GHeap) (V : PVs), PR L0 L V g b3 bR (c + ((min (j - 1) (n - 2) : Nat) : Int)) i rr2 b44 n (rowJ c n j) →
          parlref2_SplitOf.c9 K ⟨b3, 0, none⟩ (reS g bR) ((i : Nat) : Int) ((n : Nat) : Int) ((sg.n : Nat) : Int) ((i : Nat) : Int) ((n : Nat) : Int) ((j : Nat) : Int) g.terms g.nons g.start sg u0 u1 u2 u3 L := by
        refine down ?_ ?_
        · intro L V h
          apply parlref2_SplitOf.go9
          refine bcD (fun h => absurd h (by omega)) fun _ => ?_
          rw [rowJ_all (by omega), show min (n - 1) (n - 2) = n - 2 by omega] at h
          obtain ⟨V', h'⟩ := h.done hrow
          exact fin L V' rr2 h'
        · intro j hj ihj L V h
          have next : ∀ (L : GHeap) (V : PVs), PR L0 L V g b3 bR (c + ((min j (n - 2) : Nat) : Int)) i rr2 b44 n (rowJ c n (j + 1)) →
              parlref2_SplitOf.c14 K ⟨b3, 0, none⟩ (reS g bR) ((i : Nat) : Int) ((n : Nat) : Int) ((sg.n : Nat) : Int) ((i : Nat) : Int) ((n : Nat) : Int) ((j : Nat) : Int) g.terms g.nons g.start sg u0 u1 u2 u3 L := by
            intro L V h
            apply parlref2_SplitOf.go14
            unfold parlref2_SplitOf.t14
            rw [add_one (by omega)]
            exact ihj L V h
          apply parlref2_SplitOf.go9
          refine bcD (fun _ => ?_) fun hf => absurd (by omega) hf
          rw [hsub]
          refine bcD (fun h1 => bcD (fun h2 => ?_) fun h2 => ?_) fun h1 => ?_
          · rw [show min (j - 1) (n - 2) = j - 1 by omega] at h
            have hleaf : ∀ {L : GHeap} {V : PVs} {row : List Int}, PR L0 L V g b3 bR (c + ((j - 1 : Nat) : Int)) i rr2 b44 n row → L.mem (⟨b3, 0, none⟩ : Addr) = some (.int .i64 (c + ((j - 1 : Nat) : Int))) := fun h => h.p.pm.mem0 h.p.v3 rfl
            refine ⟨⟨by omega, by show (i : Int) < ((g.rules.length : Nat) : Int); omega⟩, ⟨some ⟨b44, 0, none⟩, n, n⟩, h.p.head h.hd, _, hleaf h, ⟨by omega, by show (j : Int) < ((n : Nat) : Int); omega⟩, ?_⟩
            obtain ⟨m3, V3, h3⟩ := h.cell hj (c + ((j - 1 : Nat) : Int))
            rw [rowJ_set (by omega) (by omega)] at h3
            refine ⟨m3, inLI ⟨_, hleaf h3, ?_⟩⟩
            rw [w64_in (x := c + ((j - 1 : Nat) : Int) + 1) (by omega) (by omega)]
            obtain ⟨m4, V4, h4⟩ := h3.leaf (c + ((j - 1 : Nat) : Int) + 1)
            refine ⟨m4, inLI (next _ V4 ?_)⟩
            rw [show min j (n - 2) = j by omega]
            have e : c + ((j - 1 : Nat) : Int) + 1 = c + ((j : Nat) : Int) := by omega
            rw [e] at h4 ⊢
            exact h4
          · refine next _ V ?_
            rw [rowJ_skip (by omega)]
            rw [show min (j - 1) (n - 2) = min j (n - 2) by omega] at h
            exact h
          · refine next _ V ?_
            rw [rowJ_skip (by omega)]
            rw [show min (j - 1) (n - 2) = min j (n - 2) by omega] at h
            exact h
      refine key 0 (Nat.zero_le _) L2 V' ?_
      have e : c + ((min (0 - 1) (n - 2) : Nat) : Int) = c := by omega
      rw [e]; exact hR

structure SplQ (L : GHeap) (g : Gram) (v : Value) (sT sN : Sl) (nl : List Bool) : Prop where
  val : v = .agg #[.int .i64 (nN g), .int .i64 (nT g), .slice sT.a sT.n sT.c, .slice sN.a sN.n sN.c]
  to_ : IsSl (rS (rS rI)) L sT ((List.range (nN g).toNat).map fun m : Nat => tosG (rulesG g).flatten (m : Int))
  nulls : IsSl rB L sN nl
  ok : NullOk (nN g).toNat (rulesG g).flatten nl

theorem flat_all {g : Gram} (hv : Valid g) : (rulesG g).flatten.length ≤ 96 := by
  have := flat_len hv g.rules.length
  rw [show (rulesG g).take g.rules.length = rulesG g from List.take_of_length_le (by rw [rulesG_len]; exact Nat.le_refl _)] at this
  exact this

theorem SplitOf_spec {L : GHeap} {g : Gram} {sg : Sl} (hv : Valid g) (hs : IsSl rRule L sg g.rules) :
    ACalls PP parlref2_SplitOf.id [gramV g sg] L fun v L' => Le L L' ∧ ∃ sT sN nl, SplQ L' g v sT sN nl := by
  have hN := nN_le hv
  obtain ⟨N, hNN⟩ := Int.eq_ofNat_of_zero_le (show 0 ≤ nN g by omega)
  have hNt : (nN g).toNat = N := by rw [hNN]; rfl
  have hn := hs.n
  have hmany := hv.many
  have hT : nT g + g.terms = nN g := rfl
  have ht := hv.terms
  generalize hK : (fun v L' => Le L L' ∧ ∃ sT sN nl, SplQ L' g v sT sN nl) = K
  apply parlref2_SplitOf.go
  intro b3 hu3
  refine inLI ?_
  obtain ⟨q1, q2⟩ := (PM.start L).new hu3 (cs := [.int .i64 0, .int .i64 0, .slice none 0 0, .slice none 0 0]) (n := 4) (by simp) (by simp)
  obtain ⟨q3, q4, q5⟩ := pm_setAll q1 putV_self (ws := [.int .i64 g.nons, .int .i64 0, .slice none 0 0, .slice none 0 0]) rfl
  refine ⟨q3, inLI ⟨⟨by omega, by omega, by omega⟩, fun b27 hu27 => inLI ?_⟩⟩
  rw [hn, Int.toNat_natCast, Nat.mul_one]
  -- to the end
  have tail : ∀ (L1 : GHeap) (V : PVs) (ss rr : List Sl) (bT bR : Nat), P2 L L1 V g sg b3 bT bR ss rr (rulesG g).flatten → parlref2_SplitOf.c21 K ⟨b3, 0, none⟩ (reS g bR) parlref2_SplitOf_1.id (symC b3) sg ((sg.n : Nat) : Int) ((g.rules.length : Nat) : Int) 0 0 ⟨none, 0, 0⟩ ⟨none, 0, 0⟩ L1 := by
    intro L1 V ss rr bT bR h
    apply parlref2_SplitOf.go21
    refine bcD (fun hf => absurd hf (by omega)) fun _ => ?_
    refine ⟨_, h.pm.mem0 h.v3 rfl, ⟨by omega, by omega, by omega⟩, fun bN huN => inLI ?_⟩
    rw [hNt, Nat.mul_one, zeros_rep]
    have h3n := pm_ne h.pm huN h.v3
    have hTn := pm_ne h.pm huN h.vT
    obtain ⟨p1, p2⟩ := h.pm.new huN (cs := List.replicate N (.bool false)) (n := N) (by rw [List.length_replicate]; omega) (by rw [List.length_replicate]; exact Nat.le_refl _)
    obtain ⟨p3, p4, p5⟩ := p1.set (b := b3) (by rw [putV_ne h3n]; exact h.v3) (o := 3) (by simp) (.slice (some ⟨bN, 0, none⟩) N N)
    refine ⟨p3, inLI ⟨_, p4.mem0 putV_self rfl, ?_⟩⟩
    have e1 := inV_put (V := putV V bN (List.replicate N (.bool false))) (b := b3) (ws := List.set [.int .i64 (nN g), .int .i64 (nT g), fSl (toS g bT), fSl ⟨none, 0, 0⟩] 3 (.slice (some ⟨bN, 0, none⟩) N N)) (by rw [putV_ne h3n]; exact h.v3)
    obtain ⟨f1, f2, f3⟩ := p4.free putV_self
    obtain ⟨k1, k2, k3⟩ := f1.free (b := bT) (vs := ss.map fSl) (by rw [dropV_ne h.n3.symm, putV_ne h.n3.symm, putV_ne hTn]; exact h.vT)
    rw [e1, p5, p2] at f2
    have hvN : dropV (dropV (putV (putV V bN (List.replicate N (.bool false))) b3 (List.set [.int .i64 (nN g), .int .i64 (nT g), fSl (toS g bT), fSl ⟨none, 0, 0⟩] 3 (.slice (some ⟨bN, 0, none⟩) N N))) b3) bT bN = some ((List.replicate N false).map Value.bool) := by
      rw [dropV_ne hTn.symm, dropV_ne h3n.symm, putV_ne h3n.symm, putV_self, List.map_replicate]
    generalize (L1.alloc bN (List.replicate N (.bool false)) N).sets ((⟨b3, 0, none⟩ : Addr).add 3) 0 [.slice (some ⟨bN, 0, none⟩) N N] = L2 at *
    generalize dropV (dropV (putV (putV V bN (List.replicate N (.bool false))) b3 (List.set [.int .i64 (nN g), .int .i64 (nT g), fSl (toS g bT), fSl ⟨none, 0, 0⟩] 3 (.slice (some ⟨bN, 0, none⟩) N N))) b3) bT = V4 at *
    have hr := k2.toLeM.reads f3
    have hle := f2.toLeM.trans k2.toLeM
    have hTT : IsSl (rS (rS rI)) (L2.off (inV V4)) (toS g bT) ((List.range N).map fun m : Nat => tosG (rulesG g).flatten (m : Int)) := by
      have hsl := h.len
      rw [hNt] at hsl
      refine IsSl.of_cells (cellsS ss _ (by rw [hsl, List.length_map, List.length_range]) fun m s xs h1 h2 => ?_) (by rw [List.length_map, List.length_range, hNt]) (Nat.le_refl _) k3
      have hmN := (List.getElem?_eq_some_iff.1 h1).1
      rw [List.getElem?_map, List.getElem?_range (by omega)] at h2
      injection h2 with h2
      rw [← h2]
      exact (h.tr.own m s h1).sl.mono hle
    rw [hNN]
    refine spl_nulls (L0 := L) (H := L2.off (inV V4)) (bs := (rulesG g).flatten) (bN := bN) (sT := toS g bT) (T := nT g) (fun x hx => ?_) (by have := flat_all hv; omega) (by omega) (by rw [← hNN]; exact hr) hTT ?_ 0 (Nat.zero_le _) L2 V4 (List.replicate N false) ⟨k1, hvN, rfl⟩ (List.length_replicate ..) (fun m hm => ?_) (.inr ?_)
    · obtain ⟨l, hl, hx⟩ := List.mem_flatten.1 hx
      rw [← hNt]
      exact (rulesG_ok hv l hl).2 x hx
    · intro L' V' nl hP hok
      rw [← hK]
      obtain ⟨_, _, g3⟩ := hP.pm.free hP.vN
      refine ⟨hP.pm.leL, toS g bT, ⟨some ⟨bN, 0, none⟩, N, N⟩, nl, ⟨by rw [hNN], by rw [hNt]; exact hTT.mono hP.leM, ?_, by rw [hNt]; exact hok⟩⟩
      exact (IsSl.of_cells (cellsB _ nl) hok.len.symm (Nat.le_refl _) g3).mono off_le
    · have := hm.2
      rw [List.getElem?_replicate] at this
      split at this <;> cases this
    · have := List.count_le_length (a := false) (l := List.replicate N false)
      rw [List.length_replicate] at this
      omega
  -- the middle
  have mid : ∀ (bR : Nat) (L1 : GHeap) (V : PVs) (rr : List Sl), P1 L L1 V g b3 bR (nT g) g.rules.length rr → parlref2_SplitOf.c4 K ⟨b3, 0, none⟩ (reS g bR) ((sg.n : Nat) : Int) ((g.rules.length : Nat) : Int) g.terms g.nons g.start sg 0 0 ⟨none, 0, 0⟩ ⟨none, 0, 0⟩ L1 := by
    intro bR L1 V rr h
    apply parlref2_SplitOf.go4
    refine bcD (fun hf => absurd hf (by omega)) fun _ => ?_
    refine ⟨_, h.pm.mem0 h.v3 rfl, ?_⟩
    obtain ⟨a1, a2, a3⟩ := h.pm.set h.v3 (o := 1) (by simp) (.int .i64 (nT g))
    refine ⟨a1, inLI ⟨_, a2.mem0 putV_self rfl, ?_⟩⟩
    have c1 := a2.set putV_self (o := 0) (by simp) (.int .i64 (nN g))
    rw [add_zero] at c1
    obtain ⟨c1, c2, c3⟩ := c1
    rw [w64_in (x := nT g + g.terms) (by omega) (by omega), hT]
    refine ⟨c1, inLI ⟨_, c2.mem0 putV_self rfl, ⟨by omega, by omega, by omega⟩, fun b83 hu83 => inLI ?_⟩⟩
    have e1 := inV_put (ws := [.int .i64 (nT g), .int .i64 (nT g), .slice none 0 0, .slice none 0 0]) h.v3
    have e2 : inV (putV (putV V b3 [.int .i64 (nT g), .int .i64 (nT g), .slice none 0 0, .slice none 0 0]) b3 [.int .i64 (nN g), .int .i64 (nT g), .slice none 0 0, .slice none 0 0]) = inV V := by rw [inV_put putV_self, e1]
    have c2' : PM L (((L1.sets ((⟨b3, 0, none⟩ : Addr).add 1) 0 [.int .i64 (nT g)]).sets ⟨b3, 0, none⟩ 0 [.int .i64 (nN g)])) (putV (putV V b3 [.int .i64 (nT g), .int .i64 (nT g), .slice none 0 0, .slice none 0 0]) b3 [.int .i64 (nN g), .int .i64 (nT g), .slice none 0 0, .slice none 0 0]) := c2
    have hof : ((L1.sets ((⟨b3, 0, none⟩ : Addr).add 1) 0 [.int .i64 (nT g)]).sets ⟨b3, 0, none⟩ 0 [.int .i64 (nN g)]).off (inV V) = L1.off (inV V) := by
      have c3' : ((L1.sets ((⟨b3, 0, none⟩ : Addr).add 1) 0 [.int .i64 (nT g)]).sets ⟨b3, 0, none⟩ 0 [.int .i64 (nN g)]).off (inV (putV V b3 [.int .i64 (nT g), .int .i64 (nT g), .slice none 0 0, .slice none 0 0])) = (L1.sets ((⟨b3, 0, none⟩ : Addr).add 1) 0 [.int .i64 (nT g)]).off (inV (putV V b3 [.int .i64 (nT g), .int .i64 (nT g), .slice none 0 0, .slice none 0 0])) := c3
      rw [e1] at c3'
      rw [c3', a3]
    have hvR : 0 < rr.length → putV (putV V b3 [.int .i64 (nT g), .int .i64 (nT g), .slice none 0 0, .slice none 0 0]) b3 [.int .i64 (nN g), .int .i64 (nT g), .slice none 0 0, .slice none 0 0] bR = some (rr.map fSl) := fun hp => by rw [putV_ne h.nR, putV_ne h.nR]; exact h.vR hp
    have hv3 : putV (putV V b3 [.int .i64 (nT g), .int .i64 (nT g), .slice none 0 0, .slice none 0 0]) b3 [.int .i64 (nN g), .int .i64 (nT g), .slice none 0 0, .slice none 0 0] b3 = some [.int .i64 (nN g), .int .i64 (nT g), .slice none 0 0, .slice none 0 0] := putV_self
    generalize (L1.sets ((⟨b3, 0, none⟩ : Addr).add 1) 0 [.int .i64 (nT g)]).sets ⟨b3, 0, none⟩ 0 [.int .i64 (nN g)] = L2 at *
    generalize putV (putV V b3 [.int .i64 (nT g), .int .i64 (nT g), .slice none 0 0, .slice none 0 0]) b3 [.int .i64 (nN g), .int .i64 (nT g), .slice none 0 0, .slice none 0 0] = V2 at *
    rw [hNt, Nat.mul_one, zeros_rep]
    have hn3 := pm_ne c2' hu83 hv3
    have hss : List.replicate N (Value.slice none 0 0) = (List.replicate N (⟨none, 0, 0⟩ : Sl)).map fSl := by rw [List.map_replicate]
    rw [hss]
    obtain ⟨d1, d2⟩ := c2'.new hu83 (cs := (List.replicate N (⟨none, 0, 0⟩ : Sl)).map fSl) (n := N) (by rw [List.length_map, List.length_replicate]; omega) (by rw [List.length_map, List.length_replicate]; exact Nat.le_refl _)
    obtain ⟨m1, m2, m3⟩ := d1.set (b := b3) (by rw [putV_ne hn3]; exact hv3) (o := 2) (by simp) (.slice (some ⟨b83, 0, none⟩) N N)
    refine ⟨m1, inLI ?_⟩
    have eo : ((L2.alloc b83 ((List.replicate N (⟨none, 0, 0⟩ : Sl)).map fSl) N).sets ((⟨b3, 0, none⟩ : Addr).add 2) 0 [.slice (some ⟨b83, 0, none⟩) N N]).off (inV (putV (putV V2 b83 ((List.replicate N (⟨none, 0, 0⟩ : Sl)).map fSl)) b3 (List.set [.int .i64 (nN g), .int .i64 (nT g), .slice none 0 0, .slice none 0 0] 2 (.slice (some ⟨b83, 0, none⟩) N N)))) = L1.off (inV V) := by
      rw [inV_put (by rw [putV_ne hn3]; exact hv3), m3, d2, e2, hof]
    refine spl_rules (L0 := L) (bT := b83) (bR := bR) (rr := rr) hv (fun L3 V3 ss h3 => tail L3 V3 ss rr b83 bR h3) 0 (Nat.zero_le _) _ _ (List.replicate N ⟨none, 0, 0⟩) ⟨m2, ?_, ?_, ?_, hn3, ?_, ?_, h.len, ?_, ?_, ?_⟩
    · rw [putV_self]
      show some [_, _, _, _] = some [_, _, _, _]
      rw [← hNt]
    · rw [putV_ne hn3.symm, putV_self]
    · intro hp
      rw [putV_ne h.nR, putV_ne (pm_ne c2' hu83 (hvR hp))]
      exact hvR hp
    · exact fun hp => pm_ne c2' hu83 (hvR hp)
    · rw [List.length_replicate, hNt]
    · intro k s hs'
      rw [eo]
      exact h.rows k s (by have := (List.getElem?_eq_some_iff.1 hs').1; have := h.len; omega) hs'
    · rw [eo]; exact hs.mono h.pm.le.toLeM
    · rw [eo]; exact TR.nil N
  have e0 : g.nons + ((extS (g.rules.take 0) : Nat) : Int) = g.nons := by simp [extS]
  have hnR := (pm_ne q4 hu27 putV_self).symm
  rcases Nat.eq_zero_or_pos g.rules.length with h0 | h0
  · rw [h0]
    obtain ⟨r1, r2, r3⟩ := q4.alloc hu27 (zeros 0 [.slice none 0 0]) 0
    have := spl_rests (L0 := L) (K := K) (bR := b27) (u0 := 0) (u1 := 0) (u2 := ⟨none, 0, 0⟩) (u3 := ⟨none, 0, 0⟩) hv hs (mid b27) 0 (Nat.zero_le _) _ _ [] ⟨r1, by rw [e0]; exact putV_self, fun hp => absurd hp (by simp), hnR, by rw [h0]; rfl, fun k s hk _ => absurd hk (Nat.not_lt_zero _)⟩
    rw [hn] at this
    unfold reS at this
    rw [h0] at this
    exact this
  · have hss : zeros g.rules.length [Value.slice none 0 0] = (List.replicate g.rules.length (⟨none, 0, 0⟩ : Sl)).map fSl := by rw [List.map_replicate, zeros_rep]
    rw [hss]
    obtain ⟨r1, r2⟩ := q4.new hu27 (cs := (List.replicate g.rules.length (⟨none, 0, 0⟩ : Sl)).map fSl) (n := g.rules.length) (by rw [List.length_map, List.length_replicate]; omega) (by rw [List.length_map, List.length_replicate]; exact Nat.le_refl _)
    have := spl_rests (L0 := L) (K := K) (bR := b27) (u0 := 0) (u1 := 0) (u2 := ⟨none, 0, 0⟩) (u3 := ⟨none, 0, 0⟩) hv hs (mid b27) 0 (Nat.zero_le _) _ _ (List.replicate g.rules.length ⟨none, 0, 0⟩) ⟨r1, by rw [putV_ne hnR.symm, e0]; exact putV_self, fun _ => putV_self, hnR, List.length_replicate .., fun k s hk _ => absurd hk (Nat.not_lt_zero _)⟩
    rw [hn] at this
    exact this
end Go.Proofs.YtcnkbjipogngaaaDoor.NormS

