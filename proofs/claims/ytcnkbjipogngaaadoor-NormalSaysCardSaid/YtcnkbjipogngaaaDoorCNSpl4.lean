/- parlref2.SplitOf: the nonterminals that have the empty word. -/
import Derived.Test.YtcnkbjipogngaaaDoorCNSpl3
import Derived.Test.YtcnkbjipogngaaaDoorCNormNul
set_option linter.all false
namespace Go.Proofs.YtcnkbjipogngaaaDoor.NormS
open Go Go.Proofs.YtcnkbjipogngaaaDoor.GH

/-- A private table beside lists that stay. -/
structure P3 (L0 L H : GHeap) (V : PVs) (bN : Nat) (nl : List Bool) : Prop where
  pm : PM L0 L V
  vN : V bN = some (nl.map Value.bool)
  off : L.off (inV V) = H

section
variable {L0 L H : GHeap} {V : PVs} {bN : Nat} {nl : List Bool}
theorem P3.leM (h : P3 L0 L H V bN nl) : LeM H L := by rw [← h.off]; exact off_le
theorem P3.get (h : P3 L0 L H V bN nl) {k : Nat} {x : Bool} (hx : nl[k]? = some x) : L.mem ((⟨bN, 0, none⟩ : Addr).add (Int.toNat ((k : Nat) : Int) * 1)) = some (.bool x) := by
  rw [Int.toNat_natCast, Nat.mul_one]
  refine h.pm.mem h.vN ?_
  rw [List.getElem?_map, hx]; rfl
theorem P3.set (h : P3 L0 L H V bN nl) {k : Nat} (hk : k < nl.length) (x : Bool) :
    L.may ((⟨bN, 0, none⟩ : Addr).add (Int.toNat ((k : Nat) : Int) * 1)) 0 1 ∧ ∃ V', P3 L0 (L.sets ((⟨bN, 0, none⟩ : Addr).add (Int.toNat ((k : Nat) : Int) * 1)) 0 [.bool x]) H V' bN (nl.set k x) := by
  rw [Int.toNat_natCast, Nat.mul_one]
  obtain ⟨k1, k2, k3⟩ := h.pm.set h.vN (o := k) (by rw [List.length_map]; exact hk) (.bool x)
  refine ⟨k1, _, k2, by rw [putV_self, List.map_set], ?_⟩
  rw [inV_put h.vN, k3]; exact h.off
end

theorem any_not {nl : List Bool} {r : List Int} : (r.any fun m => !decide (isN nl m)) = false ↔ ∀ m ∈ r, isN nl m := by
  rw [List.any_eq_false]
  exact ⟨fun h m hm => by have := h m hm; simpa using this, fun h m hm => by have := h m hm; simpa using this⟩

theorem nullFn {L : GHeap} {b3 c N : Nat} {nl : List Bool} (h3 : L.mem ((⟨b3, 0, none⟩ : Addr).add 3) = some (.slice (some ⟨c, 0, none⟩) N N)) (hl : nl.length = N) {m : Int} (h0 : 0 ≤ m) (hm : m < N)
    (hb : ∀ x, nl[m.toNat]? = some x → L.mem ((⟨c, 0, none⟩ : Addr).add (Int.toNat ((m.toNat : Nat) : Int) * 1)) = some (.bool x)) :
    RO PP parlref2_SplitOf_2.id ([.int .i64 m] ++ [.pointer (some ⟨b3, 0, none⟩)]) L (.bool (!decide (isN nl m))) := by
  obtain ⟨v, hv, hi⟩ := isN_get (nl := nl) h0 (by rw [hl]; exact hm)
  have hmem := hb v hv
  obtain ⟨k, rfl⟩ := Int.eq_ofNat_of_zero_le h0
  rw [Int.toNat_natCast] at hmem
  apply parlref2_SplitOf_2.go
  refine ⟨⟨some ⟨c, 0, none⟩, N, N⟩, h3, ⟨h0, hm⟩, v, hmem, ?_, rfl⟩
  congr 1
  have : decide (isN nl (k : Int)) = v := by
    cases v with
    | true => exact decide_eq_true (hi.2 rfl)
    | false => exact decide_eq_false fun h => by have := hi.1 h; cases this
  rw [this]

theorem spl_nulls {K : Value → GHeap → Prop} {L0 H : GHeap} {bs : List Bs} {N b3 bN : Nat} {sT : Sl} {T u0 u1 : Int} {u2 u3 : Sl} (hok : ∀ x ∈ bs, BsOk N x) (hbl : bs.length ≤ 1048576) (hN : N ≤ 1048576)
    (hr : H.reads ⟨b3, 0, none⟩ 0 [.int .i64 (N : Int), .int .i64 T, .slice sT.a sT.n sT.c, .slice (some ⟨bN, 0, none⟩) N N])
    (hT : IsSl (rS (rS rI)) H sT ((List.range N).map fun m : Nat => tosG bs (m : Int)))
    (hend : ∀ (L : GHeap) (V : PVs) (nl : List Bool), P3 L0 L H V bN nl → NullOk N bs nl → K (.agg #[.int .i64 (N : Int), .int .i64 T, .slice sT.a sT.n sT.c, .slice (some ⟨bN, 0, none⟩) N N]) L) :
    ∀ t, t ≤ N → ∀ (L : GHeap) (V : PVs) (nl : List Bool), P3 L0 L H V bN nl → nl.length = N → (∀ m, isN nl m → DerE bs m) → ((∀ x ∈ bs, Clo nl x) ∨ nl.count false + t ≤ N) →
      parlref2_SplitOf.c42 K ⟨b3, 0, none⟩ ((N : Nat) : Int) ((t : Nat) : Int) u0 u1 u2 u3 L := by
  have h2 : H.mem ((⟨b3, 0, none⟩ : Addr).add 2) = some (.slice sT.a sT.n sT.c) := by
    have := reads_iff.1 hr 2 _ rfl
    simpa using this
  have h3 : H.mem ((⟨b3, 0, none⟩ : Addr).add 3) = some (.slice (some ⟨bN, 0, none⟩) N N) := by
    have := reads_iff.1 hr 3 _ rfl
    simpa using this
  have hTn := hT.n
  rw [List.length_map, List.length_range] at hTn
  refine down ?_ ?_
  · intro L V nl h hl hs hc
    apply parlref2_SplitOf.go42
    refine bcD (fun hf => absurd hf (by omega)) fun _ => ?_
    refine ⟨_, _, sT, ⟨some ⟨bN, 0, none⟩, N, N⟩, h.leM.reads hr, hend L V nl h ⟨hl, hs, ?_⟩⟩
    rcases hc with hc | hc
    · exact hc
    · intro x hx _
      have h0 : nl.count false = 0 := by omega
      have hb := (hok x hx).left
      obtain ⟨v, hv, hi⟩ := isN_get (nl := nl) hb.1 (by rw [hl]; exact hb.2)
      refine hi.2 ?_
      cases v with
      | true => rfl
      | false => exact absurd (List.mem_of_getElem? hv) (List.count_eq_zero.1 h0)
  · intro t ht ih L V nl0 h hl0 hs0 hc0
    apply parlref2_SplitOf.go42
    refine bcD (fun _ => ?_) fun hf => absurd (by omega) hf
    refine ⟨sT, h.leM.mem _ _ h2, ?_⟩
    have seen : ∀ n : Nat, n ≤ N → (List.range n).flatMap (fun m : Nat => (tosG bs (m : Int)).map fun r => ((m : Int), r)) = (List.range n).flatMap fun m : Nat => (tosG bs (m : Int)).map fun r => ((m : Int), r) := fun _ _ => rfl
    have outer : ∀ n, n ≤ N → ∀ (L : GHeap) (V : PVs) (nl : List Bool) (again : Bool), P3 L0 L H V bN nl → Pass N bs nl0 nl again ((List.range n).flatMap fun m : Nat => (tosG bs (m : Int)).map fun r => ((m : Int), r)) → ((∀ x ∈ bs, Clo nl0 x) → again = false) →
        parlref2_SplitOf.c44 K ⟨b3, 0, none⟩ ((N : Nat) : Int) ((t : Nat) : Int) sT ((sT.n : Nat) : Int) ((n : Nat) : Int) u0 u1 u2 u3 L := by
      refine down ?_ ?_
      · intro L V nl again h hp hca
        apply parlref2_SplitOf.go44
        refine bcD (fun hf => absurd hf (by omega)) fun _ => ?_
        rw [add_one (by omega)]
        refine ih L V nl h hp.len hp.sound ?_
        cases again with
        | false =>
          left
          intro x hx
          refine (hp.no rfl).2 x ?_
          have hb := (hok x hx).left
          obtain ⟨l, r⟩ := x
          obtain ⟨k, rfl⟩ := Int.eq_ofNat_of_zero_le hb.1
          simp only at hb
          exact List.mem_flatMap.2 ⟨k, List.mem_range.2 (by omega), List.mem_map.2 ⟨r, tosG_mem.2 hx, rfl⟩⟩
        | true =>
          right
          have := hp.yes rfl
          rcases hc0 with hc0 | hc0
          · exact absurd (hca hc0) (by simp)
          · omega
      · intro n hn ihn L V nl again h hp hca
        rw [List.range_succ, List.flatMap_append] at ihn
        simp only [List.flatMap_cons, List.flatMap_nil, List.append_nil] at ihn
        have hrow : ((List.range N).map fun m : Nat => tosG bs (m : Int))[n]? = some (tosG bs (n : Int)) := by rw [List.getElem?_map, List.getElem?_range hn]; rfl
        have htl := tosG_len (bs := bs) (m := (n : Int))
        have hin : ∀ r ∈ tosG bs (n : Int), ((n : Int), r) ∈ bs := fun r hr => tosG_mem.1 hr
        generalize tosG bs (n : Int) = rows at *
        generalize ((List.range n).flatMap fun m : Nat => (tosG bs (m : Int)).map fun r => ((m : Int), r)) = pre at *
        apply parlref2_SplitOf.go44
        refine bcD (fun _ => ?_) fun hf => absurd (by omega) hf
        refine getUp hT h.leM hrow fun a cs hK hcc => ?_
        obtain ⟨sr, rfl, hsr⟩ := hK
        have hsn := hsr.n
        refine ⟨sr, reads_one hcc, ?_⟩
        have inner : ∀ j, j ≤ rows.length → ∀ (L : GHeap) (V : PVs) (nl : List Bool) (again : Bool), P3 L0 L H V bN nl → Pass N bs nl0 nl again (pre ++ (rows.take j).map fun r => ((n : Int), r)) → ((∀ x ∈ bs, Clo nl0 x) → again = false) →
            parlref2_SplitOf.c47 K ⟨b3, 0, none⟩ ((n : Nat) : Int) ((N : Nat) : Int) ((t : Nat) : Int) sT ((sT.n : Nat) : Int) ((n : Nat) : Int) sr ((sr.n : Nat) : Int) ((j : Nat) : Int) u0 u1 u2 u3 L := by
          refine down ?_ ?_
          · intro L V nl again h hp hca
            rw [List.take_length] at hp
            apply parlref2_SplitOf.go47
            refine bcD (fun hf => absurd hf (by omega)) fun _ => ?_
            rw [add_one (by omega)]
            exact ihn L V nl again h hp hca
          · intro j hj ihj L V nl again h hp hca
            have hx := List.getElem?_eq_getElem hj
            have hxb := hin _ (List.getElem_mem hj)
            rw [List.take_succ_eq_append_getElem hj, List.map_append, ← List.append_assoc] at ihj
            generalize rows[j] = r at *
            have hb := hok _ hxb
            have hleft := hb.left
            simp only at hleft
            have next : ∀ (L : GHeap) (V : PVs) (nl : List Bool) (again : Bool), P3 L0 L H V bN nl → Pass N bs nl0 nl again ((pre ++ (rows.take j).map fun r => ((n : Int), r)) ++ [((n : Int), r)]) → ((∀ x ∈ bs, Clo nl0 x) → again = false) →
                parlref2_SplitOf.c51 K ⟨b3, 0, none⟩ ((n : Nat) : Int) ((N : Nat) : Int) ((t : Nat) : Int) sT ((sT.n : Nat) : Int) ((n : Nat) : Int) sr ((sr.n : Nat) : Int) ((j : Nat) : Int) u0 u1 u2 u3 L := by
              intro L V nl again h hp hca
              apply parlref2_SplitOf.go51
              unfold parlref2_SplitOf.t51
              rw [add_one (by omega)]
              exact ihj L V nl again h hp hca
            apply parlref2_SplitOf.go47
            refine bcD (fun _ => ?_) fun hf => absurd (by omega) hf
            refine getUp hsr h.leM hx fun a2 cs2 hK2 hcc2 => ?_
            obtain ⟨sx, rfl, hsx⟩ := hK2
            have hlen := hp.len
            refine ⟨sx, reads_one hcc2, (ContainsFuncI_ro (p := fun m => !decide (isN nl m)) (hsx.mono h.leM) (by show r.length ≤ 1048576; have : r.length ≤ 2 := hb.len; omega) fun m hm => ?_).use ⟨_, rfl, keep_refl _, inLI ?_⟩⟩
            · have hmr := hb.right m hm
              exact nullFn (h.leM.mem _ _ h3) hlen hmr.1 hmr.2 fun x hx => h.get hx
            refine bcN (bcI (fun hany => ?_) fun hany => ?_)
            · rw [List.any_eq_true] at hany
              obtain ⟨m, hm, hmn⟩ := hany
              exact next L V nl again h (hp.skip fun hall => absurd (hall m hm) (by simpa using hmn)) hca
            · have hall := any_not.1 hany
              have hnl : n < nl.length := by rw [hlen]; exact hn
              obtain ⟨k1, V', k2⟩ := h.set hnl true
              refine ⟨⟨some ⟨bN, 0, none⟩, N, N⟩, h.leM.mem _ _ h3, ⟨by omega, by show (n : Int) < ((N : Nat) : Int); omega⟩, k1, inLI ?_⟩
              cases hv : nl[n] with
              | true =>
                have hset : nl.set n true = nl := by
                  conv => lhs; rw [← hv]
                  exact List.set_getElem_self hnl
                rw [hset] at k2
                refine next _ V' nl again k2 (hp.skip fun _ => ?_) hca
                exact ⟨by simp only; omega, by rw [Int.toNat_natCast, List.getElem?_eq_getElem hnl, hv]⟩
              | false =>
                have h0 : nl[((n : Int), r).1.toNat]? = some false := by show nl[Int.toNat (n : Int)]? = _; rw [Int.toNat_natCast, List.getElem?_eq_getElem hnl, hv]
                refine next _ V' _ true k2 (hp.add (x := ((n : Int), r)) hxb h0 hall (by simp only; omega)) fun hcl => ?_
                have ha := hca hcl
                have he := (hp.no ha).1
                have := hcl _ hxb (by rw [← he]; exact hall)
                rw [← he] at this
                have := this.2
                rw [h0] at this
                cases this
        exact inner 0 (Nat.zero_le _) L V nl again h (by simpa using hp) hca
    exact outer 0 (Nat.zero_le _) L V nl0 false h ⟨hl0, hs0, fun _ => ⟨rfl, fun x hx => by simp at hx⟩, (fun h => by cases h), Nat.le_refl _⟩ fun _ => rfl
end Go.Proofs.YtcnkbjipogngaaaDoor.NormS
