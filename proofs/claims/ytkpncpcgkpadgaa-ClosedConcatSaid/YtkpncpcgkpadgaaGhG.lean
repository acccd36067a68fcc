/- GH, seventh part: soundness of an operation that touches memory. -/
import Derived.Test.YtkpncpcgkpadgaaGhF
set_option linter.all false
namespace Go.Proofs.Ytkpncpcgkpadgaa.GH
open Go

theorem zeros_eq (n : Nat) (z : Array Value) : (Array.range (n * z.size)).map (fun i => z[i % z.size]!) = (zeros n z.toList).toArray := by
  have key : ∀ n, (List.range (n * z.size)).map (fun i => z[i % z.size]!) = zeros n z.toList := by
    intro n
    induction n with
    | zero => simp [zeros]
    | succ n ih =>
      have h1 : zeros (n + 1) z.toList = zeros n z.toList ++ z.toList := by
        unfold zeros
        rw [List.replicate_succ', List.flatten_append]; simp
      rw [h1, ← ih, Nat.add_mul, Nat.one_mul, List.range_add, List.map_append]
      congr 1
      apply List.ext_getElem
      · simp
      · intro i h1 h2
        simp only [List.length_map, List.length_range] at h1
        have hlt : i < z.size := by simpa using h1
        simp only [List.getElem_map, List.getElem_range]
        rw [Nat.add_comm, Nat.add_mul_mod_self_right, Nat.mod_eq_of_lt hlt]
        simp [hlt]
  apply Array.ext'
  simp only [Array.toList_map, Array.toList_range]
  exact key n

theorem zeros_length (n : Nat) (z : List Value) : (zeros n z).length = n * z.length := by simp [zeros]

theorem size_le_of_cells {n : Nat} {zs : Array Value} (h : zs.size = 0) : zeros n zs.toList = [] := by
  have : zs = #[] := Array.eq_empty_of_size_eq_zero h
  subst this
  unfold zeros
  induction n with
  | zero => rfl
  | succ n ih => rw [List.replicate_succ', List.flatten_append, ih]; rfl

section
variable {P : Program} {B0 B : Boxes} {e : Env} {S : Sto} {L : GHeap} {bs : Nat → Nat} {a : Act} {w : World}

theorem run_isAgg {t : TypeId} {d : TypeDesc} (hd : P.underlying t = some d) : (isAgg t).run P w = .ok (isAggT P t) w := by
  unfold isAgg isAggT
  simp only [Go.underlying, Sem.run_bind, run_program, Result.andThen_ok, hd]
  cases d <;> rfl

theorem run_sizeOf' {t : TypeId} {i : TypeInfo} (hi : P.info? t = some i) : (sizeOf t).run P w = .ok i.size w := by simp [sizeOf, typeInfo, hi]
theorem run_typeInfo' {t : TypeId} {i : TypeInfo} (hi : P.info? t = some i) : (typeInfo t).run P w = .ok i w := by simp [typeInfo, hi]
theorem run_underlying' {t : TypeId} {d : TypeDesc} (hi : P.underlying t = some d) : (Go.underlying t).run P w = .ok d w := by simp [Go.underlying, hi]
theorem run_zeroValue' {t : TypeId} {i : TypeInfo} {z : Value} (hi : P.info? t = some i) (hz : i.zero = some z) : (zeroValue t).run P w = .ok z w := by simp [zeroValue, typeInfo, hi, hz]

theorem load_sound {t : TypeId} {x : AV} {k : AV → Prop} (h : loadK P t x S L k) (hr : Rel B0 e S L bs B a w) {v : Value} (hv : AVr bs x v) :
    ∃ u, k (.v u) ∧ (Instr.loadAt t v).run P w = .ok u w := by
  unfold loadK at h
  split at h
  · rename_i i d hi hd
    split at h
    · rename_i b off
      cases hv
      split at h
      · exact h.elim
      · rename_i cs hcs
        obtain ⟨hbx, _⟩ := hr.own b cs hcs
        cases hag : isAggT P t with
        | true =>
          rw [hag] at h
          simp only at h
          split at h
          · rename_i hle
            have hle := Nat.le_of_ble_eq_true hle
            refine ⟨_, h, ?_⟩
            have hl : ((cs.drop off).take i.size).length = i.size := by simp; omega
            have : (loadCells ⟨bs b, off, none⟩ i.size).run P w = .ok ((cs.drop off).take i.size).toArray w := by
              have := run_loads (P := P) (w := w) ((cs.drop off).take i.size) ⟨bs b, off, none⟩ 0 #[] (fun j v hj => by
                rw [Nat.zero_add, add_spot rfl, (box_cell hr.inv hbx (off + j)).1]
                rw [List.getElem?_take] at hj
                split at hj
                · rwa [List.getElem?_drop] at hj
                · cases hj)
              rw [hl] at this
              unfold loadCells
              rw [this]; simp
            simp [Instr.loadAt, Instr.sureAddr, loadVar, run_isAgg hd, hag, run_sizeOf' hi, this]
          · exact h.elim
        | false =>
          rw [hag] at h
          obtain ⟨u, hu, hk⟩ := optK_some h
          refine ⟨u, hk, ?_⟩
          have hc := (box_cell hr.inv hbx off).1
          rw [hu] at hc
          simp [Instr.loadAt, Instr.sureAddr, loadVar, run_isAgg hd, hag, hc]
    · rename_i A
      obtain ⟨x, rfl, h⟩ := ptrK_some h
      cases hv
      cases hag : isAggT P t with
      | true =>
        rw [hag] at h
        simp only at h
        split at h
        · rename_i hle
          have hle := Nat.eq_of_beq_eq_true hle
          obtain ⟨cs, hl, hrd, hk⟩ := exCells_some h
          refine ⟨_, hk, ?_⟩
          have := run_loadCells (P := P) hrd hr.inv
          rw [hl, hle] at this
          simp [Instr.loadAt, Instr.sureAddr, loadVar, run_isAgg hd, hag, run_sizeOf' hi, this]
        · exact h.elim
      | false =>
        rw [hag] at h
        obtain ⟨u, hu, hk⟩ := exSc_some h
        refine ⟨u, hk, ?_⟩
        have hc := hr.inv.mem _ _ hu
        simp [Instr.loadAt, Instr.sureAddr, loadVar, run_isAgg hd, hag, hc]
    · exact h.elim
  · exact h.elim

theorem store_sound {t : TypeId} {x : AV} {v p : Value} {k : Sto → GHeap → Prop} (h : storeK P t x v S L k) (hr : Rel B0 e S L bs B a w) (hp : AVr bs x p) :
    ∃ S' L' B' w', k S' L' ∧ Rel B0 e S' L' bs B' a w' ∧ (Instr.storeAt t p v).run P w = .ok () w' := by
  unfold storeK at h
  split at h
  · exact h.elim
  · rename_i i hi
    split at h
    · exact h.elim
    · rename_i hc
      simp only [Bool.and_eq_true] at hc
      have hsz : v.cells.size = i.size := Nat.eq_of_beq_eq_true hc.1
      have hlen : v.cells.toList.length = i.size := by simpa using hsz
      have run : ∀ (x : Addr), (Instr.storeAt t (.pointer (some x)) v).run P w = (storeCells x v.cells.toList).run P w := by
        intro x
        simp [Instr.storeAt, Instr.sureAddr, storeVar, run_sizeOf' hi, hsz]
      split at h
      · rename_i b off
        cases hp
        split at h
        · exact h.elim
        · rename_i cs hcs
          split at h
          · rename_i hle
            have hle := Nat.le_of_ble_eq_true hle
            obtain ⟨hbx, _⟩ := hr.own b cs hcs
            obtain ⟨g1, g2⟩ := box_stores (P := P) v.cells.toList w B cs (bs b) 0 off hr.inv hbx (by rw [hlen]; omega) hc.2
            exact ⟨_, _, _, _, h, hr.setbox hcs g2, by rw [run]; exact g1⟩
          · exact h.elim
      · obtain ⟨x, rfl, hm, h⟩ := ptrK_some h
        cases hp
        rw [← hlen] at hm
        exact ⟨_, _, _, _, h, hr.sets hm, by rw [run]; exact run_storesL hr.inv hc.2 hm⟩
      · exact h.elim

theorem makeSlice_sound {t : TypeId} {len cap : AV} {k : Sl → GHeap → Prop} (h : makeSliceK P t len cap L k) (hr : Rel B0 e S L bs B a w) {vl vc : Value} (hl : AVr bs len vl) (hc : AVr bs cap vc) :
    ∃ s L' w', k s L' ∧ Rel B0 e S L' bs B a w' ∧ (Instr.makeSlice t vl vc).run P w = .ok (.slice s.a s.n s.c) w' := by
  unfold makeSliceK at h
  split at h
  · rename_i el kn n kc c hu
    split at h
    · rename_i ie hie
      split at h
      · rename_i z hz
        split at h
        · rename_i hzs
          have hzs := Nat.eq_of_beq_eq_true hzs
          obtain ⟨⟨h0, h1, h2⟩, h3⟩ := h
          cases hl; cases hc
          refine ⟨_, _, _, h3 _ (hr.inv.fresh (Nat.le_refl _)), { hr with inv := hr.inv.alloc (zeros c.toNat z.cells.toList).toArray el _ _ (by simp) (by simp [zeros_length, hzs]) }, ?_⟩
          have hm : (1 : Int) ≤ ((max ie.bytes 1 : Nat) : Int) := by omega
          have hcm : c ≤ 140737488355328 := by
            have : c * 1 ≤ c * ((max ie.bytes 1 : Nat) : Int) := Int.mul_le_mul_of_nonneg_left hm (by omega)
            omega
          have hw : ∀ x : Int, 0 ≤ x → x ≤ 140737488355328 → IntKind.i64.wrap x = x := fun x hx hx' => IntWalk.i64_in x ⟨by omega, by omega⟩
          have hb : (ie.bytes : Int) * c ≤ 2 ^ 48 := by
            have : (ie.bytes : Int) * c ≤ c * ((max ie.bytes 1 : Nat) : Int) := by
              rw [Int.mul_comm]; exact Int.mul_le_mul_of_nonneg_left (by omega) (by omega)
            omega
          have hnc : c.toNat * ie.size = 0 ∨ ¬ c.toNat * ie.size = 0 := by omega
          have hmap : (Array.range (c.toNat * ie.size)).map (fun i => z.cells[i % z.cells.size]!) = (zeros c.toNat z.cells.toList).toArray := by
            rw [← hzs]; exact zeros_eq _ _
          have ht : (decide (c < 0) || decide ((ie.bytes : Int) * c > 2 ^ 48)) = false := by
            simp only [Bool.or_eq_false_iff, decide_eq_false_iff_not]; omega
          have hcond : ¬ ((decide (c < 0) || decide ((ie.bytes : Int) * c > 2 ^ 48)) || decide (n < 0) || decide (n > c)) = true := by
            rw [ht]; simp only [Bool.false_or, Bool.or_eq_true, decide_eq_true_eq]; omega
          unfold Instr.makeSlice
          simp only [run_underlying' hu, Sem.run_bind, Result.andThen_ok, asInt, asIntOf, Sem.run_pure, run_typeInfo' hie, hw c (by omega) hcm, hw n h0 (by omega)]
          rw [if_neg hcond]
          simp only [Sem.run_bind, run_askRoom, Result.andThen_ok, run_sizeOf' hie, Sem.run_pure]
          rcases hnc with hnc | hnc
          · rw [if_pos hnc]
            have : (zeros c.toNat z.cells.toList) = [] := by
              apply List.eq_nil_of_length_eq_zero
              rw [zeros_length]; simp [hzs, hnc]
            have hr0 : Array.range 0 = #[] := rfl
            simp [newRow, this, hnc, hr0]
          · rw [if_neg hnc]
            simp only [Sem.run_bind, run_zeroValue' hie hz, Result.andThen_ok, Sem.run_pure, hmap]
            simp [newRow]
        · exact h.elim
      · exact h.elim
    · exact h.elim
  · exact h.elim

theorem nextcap_le {need cap : Nat} (h : cap < need) : Builtin.nextslicecap need cap ≤ 2 * need := by
  have grow : ∀ r c, 256 ≤ c → c ≤ 2 * need → Builtin.growBy need r c ≤ 2 * need := by
    intro r
    induction r with
    | zero => intro c _ hc; exact hc
    | succ r ih =>
      intro c h256 hc
      unfold Builtin.growBy
      split
      · exact hc
      · exact ih _ (by omega) (by omega)
  unfold Builtin.nextslicecap
  split
  · omega
  · split
    · omega
    · exact grow _ _ (by omega) (by omega)

theorem run_firstCells {A : Option Addr} {n m c size : Nat} {cs : List Value} (h : readsSl L A (m * size) cs) (hi : Inv L B w) :
    (Builtin.firstCells size m (.slice A n c)).run P w = .ok cs.toArray w := by
  obtain ⟨hl, h⟩ := h
  cases A with
  | none =>
    simp only at h
    have : cs = [] := List.eq_nil_of_length_eq_zero (by omega)
    subst this; rfl
  | some x =>
    simp only [Builtin.firstCells]
    rw [← hl]
    exact run_loadCells h hi

/-- What `append` comes to, the new cells read. -/
theorem append_sound {t t' : TypeId} {ty el : TypeId} {ie : TypeInfo} {z : Value} (hu : P.underlying t = some (.slice el)) (hie : P.info? el = some ie) (hz : ie.zero = some z) (hzs : z.cells.size = ie.size)
    {d' : TypeDesc} (hu' : P.underlying t' = some d') (hni : isIntT P t' = false) (hb0 : ie.bytes ≠ 0) {s : Sl} {m : Nat} {new : List Value} {k : Sl → GHeap → Prop} {x : Value}
    (h : appendK ie.size ie.bytes L s m new k) (hr : Rel B0 e S L bs B a w) (hnl : new.length = m * ie.size) (hone : new.all Value.oneCell' = true)
    (hlen : Builtin.lenOf x = pure m) (hnew : ∀ w', Inv L B w' → (∀ b cs, B b = some cs → w'.heap[b]? = w.heap[b]?) → (Builtin.firstCells ie.size m x).run P w' = .ok new.toArray w') :
    ∃ s' L' w', k s' L' ∧ Rel B0 e S L' bs B a w' ∧ (Builtin.append_ #[t, t'] ty #[.slice s.a s.n s.c, x]).run P w = .ok (.slice s'.a s'.n s'.c) w' := by
  obtain ⟨⟨hbytes, hnext⟩, hroom, hgrow⟩ := h
  have hz0 : ∀ k, d' ≠ .int k := by
    intro k hk; subst hk; unfold isIntT at hni; rw [hu'] at hni; cases hni
  unfold Builtin.append_
  by_cases hfit : s.n + m ≤ s.c
  · have happ := hnew w hr.inv (fun _ _ _ => rfl)
    rcases hroom hfit with ⟨hm, hk⟩ | ⟨x, hx, hmay, hk⟩
    · subst hm
      have hn0 : new = [] := List.eq_nil_of_length_eq_zero (by omega)
      subst hn0
      refine ⟨s, L, w, hk, hr, ?_⟩
      simp only [List.getElem?_toArray, List.getElem?_cons_zero, List.getElem?_cons_succ, Sem.run_bind, run_underlying' hu, run_underlying' hu', Result.andThen_ok, run_sizeOf' hie, Sem.run_pure, hlen, happ]
      cases d' <;> first
        | exact absurd rfl (hz0 _)
        | (simp only [Bool.false_eq_true, if_false, hlen, Sem.run_pure, Result.andThen_ok, Nat.add_zero, Bool.not_false, if_true, happ, Sem.run_bind]
           rw [if_pos (by omega)]
           simp only [Sem.run_bind, happ, Result.andThen_ok]
           cases s.a <;> simp [storeCells])
    · refine ⟨_, _, _, hk, hr.sets hmay, ?_⟩
      have hst := run_storesL (P := P) hr.inv hone hmay
      simp only [List.getElem?_toArray, List.getElem?_cons_zero, List.getElem?_cons_succ, Sem.run_bind, run_underlying' hu, run_underlying' hu', Result.andThen_ok, run_sizeOf' hie, Sem.run_pure, hlen, happ]
      cases d' <;> first
        | exact absurd rfl (hz0 _)
        | (simp only [Bool.false_eq_true, if_false, hlen, Sem.run_pure, Result.andThen_ok, Bool.not_false, if_true, happ, Sem.run_bind]
           rw [if_pos hfit]
           simp only [Sem.run_bind, happ, Result.andThen_ok, hx, hst, Sem.run_pure])
  · obtain ⟨old, hold, hk⟩ := hgrow (by omega)
    have hn2 : Builtin.nextslicecap (s.n + m) s.c * ie.bytes ≤ 2 ^ 48 := hnext (by omega)
    have hz1 : ¬ ((s.n + m : Nat) : Int) > IntKind.i64.max ∨ ie.bytes ≠ 0 := .inr hb0
    let w1 : World := { w with drawn := w.drawn + 1 }
    have hi1 : Inv L B w1 := hr.inv.drew _
    have happ := hnew w1 hi1 (fun _ _ _ => rfl)
    have hold' := run_firstCells (P := P) (n := s.n) (c := s.c) hold hi1
    obtain ⟨c', hc'⟩ : ∃ c', c' = (Question.appendCap (s.n + m) s.c el).cut (w.tape w.drawn (.appendCap (s.n + m) s.c el)) := ⟨_, rfl⟩
    have hge : s.n + m ≤ c' := by rw [hc']; simp only [Question.cut]; omega
    have hrest : (old ++ new) <+: (old.toArray ++ new.toArray ++ Builtin.zeroCells z.cells (c' - (s.n + m))).toList := by simp
    have hsz : c' * ie.size ≤ (old.toArray ++ new.toArray ++ Builtin.zeroCells z.cells (c' - (s.n + m))).size := by
      simp only [Array.size_append, List.size_toArray, Builtin.zeroCells, Array.size_map, Array.size_range, hold.1, hnl, hzs]
      rw [← Nat.add_mul, ← Nat.add_mul]
      apply Nat.le_of_eq; congr 1; omega
    refine ⟨_, _, _, hk _ c' (hi1.fresh (Nat.le_refl _)) hge, { hr with inv := hi1.alloc _ el _ _ hrest hsz }, ?_⟩
    simp only [List.getElem?_toArray, List.getElem?_cons_zero, List.getElem?_cons_succ, Sem.run_bind, run_underlying' hu, run_underlying' hu', Result.andThen_ok, run_sizeOf' hie, Sem.run_pure, hlen]
    cases d' <;> first
      | exact absurd rfl (hz0 _)
      | (simp only [Bool.false_eq_true, if_false, hlen, Sem.run_pure, Result.andThen_ok, Bool.not_false, if_true, Sem.run_bind]
         rw [if_neg hfit]
         simp only [Sem.run_bind, run_typeInfo' hie, Result.andThen_ok]
         rw [if_neg (by intro hh; rcases hh.2 with h | h <;> first | cases h | exact hb0 h)]
         simp only [Sem.run_bind, run_typeInfo' hie, Result.andThen_ok, Sem.run_pure]
         rw [if_neg (by omega)]
         simp only [Sem.run_bind, Sem.run_pure, Result.andThen_ok, run_choose, Question.forced, Bool.false_eq_true, if_false, run_typeInfo' hie, run_askRoom, ← hc', hold', happ, run_zeroValue' hie hz, newRow, run_newObj, w1])
/-- `append(s, make([]T, m)...)`. -/
theorem append_zeros {t t' : TypeId} {ty el : TypeId} {ie : TypeInfo} {z : Value} (hu : P.underlying t = some (.slice el)) (hie : P.info? el = some ie) (hz : ie.zero = some z) (hzs : z.cells.size = ie.size)
    {kk : IntKind} (hu' : P.underlying t' = some (.int kk)) (hb0 : ie.bytes ≠ 0) {s : Sl} {m : Int} {ki : IntKind} {k : Sl → GHeap → Prop} (h0 : 0 ≤ m) (hmb : m * (ie.bytes : Int) ≤ 281474976710656)
    (h : appendK ie.size ie.bytes L s m.toNat (zeros m.toNat z.cells.toList) k) (hr : Rel B0 e S L bs B a w) (hone : z.cells.toList.all Value.oneCell' = true) :
    ∃ s' L' w', k s' L' ∧ Rel B0 e S L' bs B a w' ∧ (Builtin.append_ #[t, t'] ty #[.slice s.a s.n s.c, .int ki m]).run P w = .ok (.slice s'.a s'.n s'.c) w' := by
  obtain ⟨⟨hbytes, hnext⟩, hroom, hgrow⟩ := h
  have hm47 : m ≤ 281474976710656 := by
    have hb1 : (1 : Int) ≤ (ie.bytes : Int) := by omega
    have : m * 1 ≤ m * (ie.bytes : Int) := Int.mul_le_mul_of_nonneg_left hb1 h0
    omega
  have hw : IntKind.i64.wrap m = m := IntWalk.i64_in m ⟨by omega, by omega⟩
  have hnl : (zeros m.toNat z.cells.toList).length = m.toNat * ie.size := by rw [zeros_length]; simp [hzs]
  have hone' : (zeros m.toNat z.cells.toList).all Value.oneCell' = true := by
    unfold zeros
    rw [List.all_flatten]
    simp only [List.all_replicate]
    split <;> simp_all
  have happ : ∀ w : World, (if m.toNat * ie.size = 0 then pure #[] else do pure (Builtin.zeroCells (← zeroValue el).cells m.toNat) : Sem (Array Value)).run P w = .ok (zeros m.toNat z.cells.toList).toArray w := by
    intro w
    by_cases hz0 : m.toNat * ie.size = 0
    · rw [if_pos hz0]
      have : zeros m.toNat z.cells.toList = [] := List.eq_nil_of_length_eq_zero (by rw [hnl, hz0])
      rw [this]; rfl
    · rw [if_neg hz0]
      simp only [Sem.run_bind, run_zeroValue' hie hz, Result.andThen_ok, Sem.run_pure, Builtin.zeroCells, zeros_eq]
  have hc1 : ¬ m < 0 := by omega
  have hc2 : ¬ m * (ie.bytes : Int) > 2 ^ 48 := by omega
  unfold Builtin.append_
  by_cases hfit : s.n + m.toNat ≤ s.c
  · rcases hroom hfit with ⟨hm, hk⟩ | ⟨x, hx, hmay, hk⟩
    · refine ⟨s, L, w, hk, hr, ?_⟩
      have hn0 : zeros m.toNat z.cells.toList = [] := List.eq_nil_of_length_eq_zero (by rw [hnl, hm]; simp)
      have happ' := happ w
      rw [hn0] at happ'
      simp only [List.getElem?_toArray, List.getElem?_cons_zero, List.getElem?_cons_succ, Sem.run_bind, run_underlying' hu, run_underlying' hu', Result.andThen_ok, run_sizeOf' hie, Sem.run_pure, asInt, asIntOf, hw, if_true, run_typeInfo' hie]
      rw [if_neg hc1]
      simp only [Sem.run_bind, run_typeInfo' hie, Result.andThen_ok]
      rw [if_neg hc2]
      simp only [Sem.run_pure, Result.andThen_ok, Sem.run_bind]
      rw [if_pos hfit]
      simp only [Bool.not_true, Bool.false_eq_true, if_false, Sem.run_bind]
      rw [happ']
      simp only [Result.andThen_ok, hm, Nat.add_zero]
      cases s.a <;> simp [storeCells]
    · refine ⟨_, _, _, hk, hr.sets hmay, ?_⟩
      have hst := run_storesL (P := P) hr.inv hone' hmay
      simp only [List.getElem?_toArray, List.getElem?_cons_zero, List.getElem?_cons_succ, Sem.run_bind, run_underlying' hu, run_underlying' hu', Result.andThen_ok, run_sizeOf' hie, Sem.run_pure, asInt, asIntOf, hw, if_true, run_typeInfo' hie]
      rw [if_neg hc1]
      simp only [Sem.run_bind, run_typeInfo' hie, Result.andThen_ok]
      rw [if_neg hc2]
      simp only [Sem.run_pure, Result.andThen_ok, Sem.run_bind]
      rw [if_pos hfit]
      simp only [Bool.not_true, Bool.false_eq_true, if_false, Sem.run_bind]
      rw [happ]
      simp only [Result.andThen_ok, hx, Sem.run_bind, hst, Sem.run_pure]
  · obtain ⟨old, hold, hk⟩ := hgrow (by omega)
    have hn2 : Builtin.nextslicecap (s.n + m.toNat) s.c * ie.bytes ≤ 2 ^ 48 := hnext (by omega)
    have hneed : ¬ (((s.n + m.toNat : Nat) : Int) > IntKind.i64.max) := by
      have : (s.n + m.toNat) * 1 ≤ (s.n + m.toNat) * ie.bytes := Nat.mul_le_mul_left _ (by omega)
      have e : IntKind.i64.max = 9223372036854775807 := rfl
      rw [e]; omega
    let w1 : World := { w with drawn := w.drawn + 1 }
    have hi1 : Inv L B w1 := hr.inv.drew _
    have hold' := run_firstCells (P := P) (n := s.n) (c := s.c) hold hi1
    obtain ⟨c', hc'⟩ : ∃ c', c' = (Question.appendCap (s.n + m.toNat) s.c el).cut (w.tape w.drawn (.appendCap (s.n + m.toNat) s.c el)) := ⟨_, rfl⟩
    have hge : s.n + m.toNat ≤ c' := by rw [hc']; simp only [Question.cut]; omega
    have hrest : (old ++ zeros m.toNat z.cells.toList) <+: (old.toArray ++ (zeros m.toNat z.cells.toList).toArray ++ Builtin.zeroCells z.cells (c' - (s.n + m.toNat))).toList := by simp
    have hsz : c' * ie.size ≤ (old.toArray ++ (zeros m.toNat z.cells.toList).toArray ++ Builtin.zeroCells z.cells (c' - (s.n + m.toNat))).size := by
      simp only [Array.size_append, List.size_toArray, Builtin.zeroCells, Array.size_map, Array.size_range, hold.1, hnl, hzs]
      rw [← Nat.add_mul, ← Nat.add_mul]
      apply Nat.le_of_eq; congr 1; omega
    refine ⟨_, _, _, hk _ c' (hi1.fresh (Nat.le_refl _)) hge, { hr with inv := hi1.alloc _ el _ _ hrest hsz }, ?_⟩
    simp only [List.getElem?_toArray, List.getElem?_cons_zero, List.getElem?_cons_succ, Sem.run_bind, run_underlying' hu, run_underlying' hu', Result.andThen_ok, run_sizeOf' hie, Sem.run_pure, asInt, asIntOf, hw, if_true, run_typeInfo' hie]
    rw [if_neg hc1]
    simp only [Sem.run_bind, run_typeInfo' hie, Result.andThen_ok]
    rw [if_neg hc2]
    simp only [Sem.run_pure, Result.andThen_ok, Sem.run_bind]
    rw [if_neg hfit]
    simp only [Sem.run_bind, run_typeInfo' hie, Result.andThen_ok]
    rw [if_neg (by intro hh; exact hneed hh.1)]
    simp only [Sem.run_bind, run_typeInfo' hie, Result.andThen_ok, Sem.run_pure]
    rw [if_neg (by omega)]
    simp only [Sem.run_bind, Sem.run_pure, Result.andThen_ok, run_choose, Question.forced, Bool.false_eq_true, if_false, run_typeInfo' hie, run_askRoom, ← hc', Bool.not_true]
    have hold2 : (Builtin.firstCells ie.size s.n (.slice s.a s.n s.c)).run P { w with drawn := w.drawn + 1 } = .ok old.toArray { w with drawn := w.drawn + 1 } := hold'
    rw [hold2]
    simp only [Result.andThen_ok]
    rw [happ]
    simp only [Result.andThen_ok, run_zeroValue' hie hz, newRow, run_newObj, w1, Sem.run_bind, Sem.run_pure]

end
end Go.Proofs.Ytkpncpcgkpadgaa.GH
