/- A logic of its own over the model: ghost heaps, operations, regions, texts of functions, data. -/
import Derived.Test.YtcnkbjipogngaaaDoorLibA
set_option linter.all false
namespace Go.Proofs.YtcnkbjipogngaaaDoor.GH
open Go

theorem zeros_eq (n : Nat) (z : Array Value) : (Array.range (n * z.size)).map (fun i => z[i % z.size]!) = (zeros n z.toList).toArray := by
  have key : ∀ n, (List.range (n * z.size)).map (fun i => z[i % z.size]!) = zeros n z.toList := by
    intro n
    induction n with
    | zero => simp [zeros]
    | succ n ih =>
      have h1 : zeros (n + 1) z.toList = zeros n z.toList ++ z.toList := by
        unfold zeros
        rw [List.replicate_succ', List.flatten_append]; simp
      rw [h1, ← ih, Nat.add_mul, Nat.one_mul, List.range_add, List.map_append]
      congr 1
      apply List.ext_getElem
      · simp
      · intro i h1 h2
        simp only [List.length_map, List.length_range] at h1
        have hlt : i < z.size := by simpa using h1
        simp only [List.getElem_map, List.getElem_range]
        rw [Nat.add_comm, Nat.add_mul_mod_self_right, Nat.mod_eq_of_lt hlt]
        simp [hlt]
  apply Array.ext'
  simp only [Array.toList_map, Array.toList_range]
  exact key n

theorem zeros_length (n : Nat) (z : List Value) : (zeros n z).length = n * z.length := by simp [zeros]

theorem size_le_of_cells {n : Nat} {zs : Array Value} (h : zs.size = 0) : zeros n zs.toList = [] := by
  have : zs = #[] := Array.eq_empty_of_size_eq_zero h
  subst this
  unfold zeros
  induction n with
  | zero => rfl
  | succ n ih => rw [List.replicate_succ', List.flatten_append, ih]; rfl

section
variable {P : Program} {B0 B : Boxes} {e : Env} {S : Sto} {L : GHeap} {bs : Nat → Nat} {a : Act} {w : World}

theorem run_isAgg {t : TypeId} {d : TypeDesc} (hd : P.underlying t = some d) : (isAgg t).run P w = .ok (isAggT P t) w := by
  unfold isAgg isAggT
  simp only [Go.underlying, Sem.run_bind, run_program, Result.andThen_ok, hd]
  cases d <;> rfl

theorem run_sizeOf' {t : TypeId} {i : TypeInfo} (hi : P.info? t = some i) : (sizeOf t).run P w = .ok i.size w := by simp [sizeOf, typeInfo, hi]
theorem run_typeInfo' {t : TypeId} {i : TypeInfo} (hi : P.info? t = some i) : (typeInfo t).run P w = .ok i w := by simp [typeInfo, hi]
theorem run_underlying' {t : TypeId} {d : TypeDesc} (hi : P.underlying t = some d) : (Go.underlying t).run P w = .ok d w := by simp [Go.underlying, hi]
theorem run_zeroValue' {t : TypeId} {i : TypeInfo} {z : Value} (hi : P.info? t = some i) (hz : i.zero = some z) : (zeroValue t).run P w = .ok z w := by simp [zeroValue, typeInfo, hi, hz]

theorem load_sound {t : TypeId} {x : AV} {k : AV → Prop} (h : loadK P t x S L k) (hr : Rel B0 e S L bs B a w) {v : Value} (hv : AVr bs x v) :
    ∃ u, k (.v u) ∧ (Instr.loadAt t v).run P w = .ok u w := by
  unfold loadK at h
  split at h
  · rename_i i d hi hd
    split at h
    · rename_i b off
      cases hv
      split at h
      · exact h.elim
      · rename_i cs hcs
        obtain ⟨hbx, _⟩ := hr.own b cs hcs
        cases hag : isAggT P t with
        | true =>
          rw [hag] at h
          simp only at h
          split at h
          · rename_i hle
            have hle := Nat.le_of_ble_eq_true hle
            refine ⟨_, h, ?_⟩
            have hl : ((cs.drop off).take i.size).length = i.size := by simp; omega
            have : (loadCells ⟨bs b, off, none⟩ i.size).run P w = .ok ((cs.drop off).take i.size).toArray w := by
              have := run_loads (P := P) (w := w) ((cs.drop off).take i.size) ⟨bs b, off, none⟩ 0 #[] (fun j v hj => by
                rw [Nat.zero_add, add_spot rfl, (box_cell hr.inv hbx (off + j)).1]
                rw [List.getElem?_take] at hj
                split at hj
                · rwa [List.getElem?_drop] at hj
                · cases hj)
              rw [hl] at this
              unfold loadCells
              rw [this]; simp
            simp [Instr.loadAt, Instr.sureAddr, loadVar, run_isAgg hd, hag, run_sizeOf' hi, this]
          · exact h.elim
        | false =>
          rw [hag] at h
          obtain ⟨u, hu, hk⟩ := optK_some h
          refine ⟨u, hk, ?_⟩
          have hc := (box_cell hr.inv hbx off).1
          rw [hu] at hc
          simp [Instr.loadAt, Instr.sureAddr, loadVar, run_isAgg hd, hag, hc]
    · rename_i A
      obtain ⟨x, rfl, h⟩ := ptrK_some h
      cases hv
      cases hag : isAggT P t with
      | true =>
        rw [hag] at h
        simp only at h
        split at h
        · rename_i hle
          have hle := Nat.eq_of_beq_eq_true hle
          obtain ⟨cs, hl, hrd, hk⟩ := exCells_some h
          refine ⟨_, hk, ?_⟩
          have := run_loadCells (P := P) hrd hr.inv
          rw [hl, hle] at this
          simp [Instr.loadAt, Instr.sureAddr, loadVar, run_isAgg hd, hag, run_sizeOf' hi, this]
        · exact h.elim
      | false =>
        rw [hag] at h
        obtain ⟨u, hu, hk⟩ := exSc_some h
        refine ⟨u, hk, ?_⟩
        have hc := hr.inv.mem _ _ hu
        simp [Instr.loadAt, Instr.sureAddr, loadVar, run_isAgg hd, hag, hc]
    · exact h.elim
  · exact h.elim

theorem store_sound {t : TypeId} {x : AV} {v p : Value} {k : Sto → GHeap → Prop} (h : storeK P t x v S L k) (hr : Rel B0 e S L bs B a w) (hp : AVr bs x p) :
    ∃ S' L' B' w', k S' L' ∧ Rel B0 e S' L' bs B' a w' ∧ (Instr.storeAt t p v).run P w = .ok () w' := by
  unfold storeK at h
  split at h
  · exact h.elim
  · rename_i i hi
    split at h
    · exact h.elim
    · rename_i hc
      simp only [Bool.and_eq_true] at hc
      have hsz : v.cells.size = i.size := Nat.eq_of_beq_eq_true hc.1
      have hlen : v.cells.toList.length = i.size := by simpa using hsz
      have run : ∀ (x : Addr), (Instr.storeAt t (.pointer (some x)) v).run P w = (storeCells x v.cells.toList).run P w := by
        intro x
        simp [Instr.storeAt, Instr.sureAddr, storeVar, run_sizeOf' hi, hsz]
      split at h
      · rename_i b off
        cases hp
        split at h
        · exact h.elim
        · rename_i cs hcs
          split at h
          · rename_i hle
            have hle := Nat.le_of_ble_eq_true hle
            obtain ⟨hbx, _⟩ := hr.own b cs hcs
            obtain ⟨g1, g2⟩ := box_stores (P := P) v.cells.toList w B cs (bs b) 0 off hr.inv hbx (by rw [hlen]; omega) hc.2
            exact ⟨_, _, _, _, h, hr.setbox hcs g2, by rw [run]; exact g1⟩
          · exact h.elim
      · obtain ⟨x, rfl, hm, h⟩ := ptrK_some h
        cases hp
        rw [← hlen] at hm
        exact ⟨_, _, _, _, h, hr.sets hm, by rw [run]; exact run_storesL hr.inv hc.2 hm⟩
      · exact h.elim

theorem makeSlice_sound {t : TypeId} {len cap : AV} {k : Sl → GHeap → Prop} (h : makeSliceK P t len cap L k) (hr : Rel B0 e S L bs B a w) {vl vc : Value} (hl : AVr bs len vl) (hc : AVr bs cap vc) :
    ∃ s L' w', k s L' ∧ Rel B0 e S L' bs B a w' ∧ (Instr.makeSlice t vl vc).run P w = .ok (.slice s.a s.n s.c) w' := by
  unfold makeSliceK at h
  split at h
  · rename_i el kn n kc c hu
    split at h
    · rename_i ie hie
      split at h
      · rename_i z hz
        split at h
        · rename_i hzs
          have hzs := Nat.eq_of_beq_eq_true hzs
          obtain ⟨⟨h0, h1, h2⟩, h3⟩ := h
          cases hl; cases hc
          refine ⟨_, _, _, h3 _ (hr.inv.fresh (Nat.le_refl _)), { hr with inv := hr.inv.alloc (zeros c.toNat z.cells.toList).toArray el _ _ (by simp) (by simp [zeros_length, hzs]) }, ?_⟩
          have hm : (1 : Int) ≤ ((max ie.bytes 1 : Nat) : Int) := by omega
          have hcm : c ≤ 140737488355328 := by
            have : c * 1 ≤ c * ((max ie.bytes 1 : Nat) : Int) := Int.mul_le_mul_of_nonneg_left hm (by omega)
            omega
          have hw : ∀ x : Int, 0 ≤ x → x ≤ 140737488355328 → IntKind.i64.wrap x = x := fun x hx hx' => IntWalk.i64_in x ⟨by omega, by omega⟩
          have hb : (ie.bytes : Int) * c ≤ 2 ^ 48 := by
            have : (ie.bytes : Int) * c ≤ c * ((max ie.bytes 1 : Nat) : Int) := by
              rw [Int.mul_comm]; exact Int.mul_le_mul_of_nonneg_left (by omega) (by omega)
            omega
          have hnc : c.toNat * ie.size = 0 ∨ ¬ c.toNat * ie.size = 0 := by omega
          have hmap : (Array.range (c.toNat * ie.size)).map (fun i => z.cells[i % z.cells.size]!) = (zeros c.toNat z.cells.toList).toArray := by
            rw [← hzs]; exact zeros_eq _ _
          have ht : (decide (c < 0) || decide ((ie.bytes : Int) * c > 2 ^ 48)) = false := by
            simp only [Bool.or_eq_false_iff, decide_eq_false_iff_not]; omega
          have hcond : ¬ ((decide (c < 0) || decide ((ie.bytes : Int) * c > 2 ^ 48)) || decide (n < 0) || decide (n > c)) = true := by
            rw [ht]; simp only [Bool.false_or, Bool.or_eq_true, decide_eq_true_eq]; omega
          unfold Instr.makeSlice
          simp only [run_underlying' hu, Sem.run_bind, Result.andThen_ok, asInt, asIntOf, Sem.run_pure, run_typeInfo' hie, hw c (by omega) hcm, hw n h0 (by omega)]
          rw [if_neg hcond]
          simp only [Sem.run_bind, run_askRoom, Result.andThen_ok, run_sizeOf' hie, Sem.run_pure]
          rcases hnc with hnc | hnc
          · rw [if_pos hnc]
            have : (zeros c.toNat z.cells.toList) = [] := by
              apply List.eq_nil_of_length_eq_zero
              rw [zeros_length]; simp [hzs, hnc]
            have hr0 : Array.range 0 = #[] := rfl
            simp [newRow, this, hnc, hr0]
          · rw [if_neg hnc]
            simp only [Sem.run_bind, run_zeroValue' hie hz, Result.andThen_ok, Sem.run_pure, hmap]
            simp [newRow]
        · exact h.elim
      · exact h.elim
    · exact h.elim
  · exact h.elim

theorem nextcap_le {need cap : Nat} (h : cap < need) : Builtin.nextslicecap need cap ≤ 2 * need := by
  have grow : ∀ r c, 256 ≤ c → c ≤ 2 * need → Builtin.growBy need r c ≤ 2 * need := by
    intro r
    induction r with
    | zero => intro c _ hc; exact hc
    | succ r ih =>
      intro c h256 hc
      unfold Builtin.growBy
      split
      · exact hc
      · exact ih _ (by omega) (by omega)
  unfold Builtin.nextslicecap
  split
  · omega
  · split
    · omega
    · exact grow _ _ (by omega) (by omega)

theorem run_firstCells {A : Option Addr} {n m c size : Nat} {cs : List Value} (h : readsSl L A (m * size) cs) (hi : Inv L B w) :
    (Builtin.firstCells size m (.slice A n c)).run P w = .ok cs.toArray w := by
  obtain ⟨hl, h⟩ := h
  cases A with
  | none =>
    simp only at h
    have : cs = [] := List.eq_nil_of_length_eq_zero (by omega)
    subst this; rfl
  | some x =>
    simp only [Builtin.firstCells]
    rw [← hl]
    exact run_loadCells h hi

theorem append_sound {t t' : TypeId} {ty el : TypeId} {ie : TypeInfo} {z : Value} (hu : P.underlying t = some (.slice el)) (hie : P.info? el = some ie) (hz : ie.zero = some z) (hzs : z.cells.size = ie.size)
    {d' : TypeDesc} (hu' : P.underlying t' = some d') (hni : isIntT P t' = false) (hb0 : ie.bytes ≠ 0) {s : Sl} {m : Nat} {new : List Value} {k : Sl → GHeap → Prop} {x : Value}
    (h : appendK ie.size ie.bytes L s m new k) (hr : Rel B0 e S L bs B a w) (hnl : new.length = m * ie.size) (hone : new.all Value.oneCell' = true)
    (hlen : Builtin.lenOf x = pure m) (hnew : ∀ w', Inv L B w' → (∀ b cs, B b = some cs → w'.heap[b]? = w.heap[b]?) → (Builtin.firstCells ie.size m x).run P w' = .ok new.toArray w') :
    ∃ s' L' w', k s' L' ∧ Rel B0 e S L' bs B a w' ∧ (Builtin.append_ #[t, t'] ty #[.slice s.a s.n s.c, x]).run P w = .ok (.slice s'.a s'.n s'.c) w' := by
  obtain ⟨⟨hbytes, hnext⟩, hroom, hgrow⟩ := h
  have hz0 : ∀ k, d' ≠ .int k := by
    intro k hk; subst hk; unfold isIntT at hni; rw [hu'] at hni; cases hni
  unfold Builtin.append_
  by_cases hfit : s.n + m ≤ s.c
  · have happ := hnew w hr.inv (fun _ _ _ => rfl)
    rcases hroom hfit with ⟨hm, hk⟩ | ⟨x, hx, hmay, hk⟩
    · subst hm
      have hn0 : new = [] := List.eq_nil_of_length_eq_zero (by omega)
      subst hn0
      refine ⟨s, L, w, hk, hr, ?_⟩
      simp only [List.getElem?_toArray, List.getElem?_cons_zero, List.getElem?_cons_succ, Sem.run_bind, run_underlying' hu, run_underlying' hu', Result.andThen_ok, run_sizeOf' hie, Sem.run_pure, hlen, happ]
      cases d' <;> first
        | exact absurd rfl (hz0 _)
        | (simp only [Bool.false_eq_true, if_false, hlen, Sem.run_pure, Result.andThen_ok, Nat.add_zero, Bool.not_false, if_true, happ, Sem.run_bind]
           rw [if_pos (by omega)]
           simp only [Sem.run_bind, happ, Result.andThen_ok]
           cases s.a <;> simp [storeCells])
    · refine ⟨_, _, _, hk, hr.sets hmay, ?_⟩
      have hst := run_storesL (P := P) hr.inv hone hmay
      simp only [List.getElem?_toArray, List.getElem?_cons_zero, List.getElem?_cons_succ, Sem.run_bind, run_underlying' hu, run_underlying' hu', Result.andThen_ok, run_sizeOf' hie, Sem.run_pure, hlen, happ]
      cases d' <;> first
        | exact absurd rfl (hz0 _)
        | (simp only [Bool.false_eq_true, if_false, hlen, Sem.run_pure, Result.andThen_ok, Bool.not_false, if_true, happ, Sem.run_bind]
           rw [if_pos hfit]
           simp only [Sem.run_bind, happ, Result.andThen_ok, hx, hst, Sem.run_pure])
  · obtain ⟨old, hold, hk⟩ := hgrow (by omega)
    have hn2 : Builtin.nextslicecap (s.n + m) s.c * ie.bytes ≤ 2 ^ 48 := hnext (by omega)
    have hz1 : ¬ ((s.n + m : Nat) : Int) > IntKind.i64.max ∨ ie.bytes ≠ 0 := .inr hb0
    let w1 : World := { w with drawn := w.drawn + 1 }
    have hi1 : Inv L B w1 := hr.inv.drew _
    have happ := hnew w1 hi1 (fun _ _ _ => rfl)
    have hold' := run_firstCells (P := P) (n := s.n) (c := s.c) hold hi1
    obtain ⟨c', hc'⟩ : ∃ c', c' = (Question.appendCap (s.n + m) s.c el).cut (w.tape w.drawn (.appendCap (s.n + m) s.c el)) := ⟨_, rfl⟩
    have hge : s.n + m ≤ c' := by rw [hc']; simp only [Question.cut]; omega
    have hrest : (old ++ new) <+: (old.toArray ++ new.toArray ++ Builtin.zeroCells z.cells (c' - (s.n + m))).toList := by simp
    have hsz : c' * ie.size ≤ (old.toArray ++ new.toArray ++ Builtin.zeroCells z.cells (c' - (s.n + m))).size := by
      simp only [Array.size_append, List.size_toArray, Builtin.zeroCells, Array.size_map, Array.size_range, hold.1, hnl, hzs]
      rw [← Nat.add_mul, ← Nat.add_mul]
      apply Nat.le_of_eq; congr 1; omega
    refine ⟨_, _, _, hk _ c' (hi1.fresh (Nat.le_refl _)) hge, { hr with inv := hi1.alloc _ el _ _ hrest hsz }, ?_⟩
    simp only [List.getElem?_toArray, List.getElem?_cons_zero, List.getElem?_cons_succ, Sem.run_bind, run_underlying' hu, run_underlying' hu', Result.andThen_ok, run_sizeOf' hie, Sem.run_pure, hlen]
    cases d' <;> first
      | exact absurd rfl (hz0 _)
      | (simp only [Bool.false_eq_true, if_false, hlen, Sem.run_pure, Result.andThen_ok, Bool.not_false, if_true, Sem.run_bind]
         rw [if_neg hfit]
         simp only [Sem.run_bind, run_typeInfo' hie, Result.andThen_ok]
         rw [if_neg (by intro hh; rcases hh.2 with h | h <;> first | cases h | exact hb0 h)]
         simp only [Sem.run_bind, run_typeInfo' hie, Result.andThen_ok, Sem.run_pure]
         rw [if_neg (by omega)]
         simp only [Sem.run_bind, Sem.run_pure, Result.andThen_ok, run_choose, Question.forced, Bool.false_eq_true, if_false, run_typeInfo' hie, run_askRoom, ← hc', hold', happ, run_zeroValue' hie hz, newRow, run_newObj, w1])
theorem append_zeros {t t' : TypeId} {ty el : TypeId} {ie : TypeInfo} {z : Value} (hu : P.underlying t = some (.slice el)) (hie : P.info? el = some ie) (hz : ie.zero = some z) (hzs : z.cells.size = ie.size)
    {kk : IntKind} (hu' : P.underlying t' = some (.int kk)) (hb0 : ie.bytes ≠ 0) {s : Sl} {m : Int} {ki : IntKind} {k : Sl → GHeap → Prop} (h0 : 0 ≤ m) (hmb : m * (ie.bytes : Int) ≤ 281474976710656)
    (h : appendK ie.size ie.bytes L s m.toNat (zeros m.toNat z.cells.toList) k) (hr : Rel B0 e S L bs B a w) (hone : z.cells.toList.all Value.oneCell' = true) :
    ∃ s' L' w', k s' L' ∧ Rel B0 e S L' bs B a w' ∧ (Builtin.append_ #[t, t'] ty #[.slice s.a s.n s.c, .int ki m]).run P w = .ok (.slice s'.a s'.n s'.c) w' := by
  obtain ⟨⟨hbytes, hnext⟩, hroom, hgrow⟩ := h
  have hm47 : m ≤ 281474976710656 := by
    have hb1 : (1 : Int) ≤ (ie.bytes : Int) := by omega
    have : m * 1 ≤ m * (ie.bytes : Int) := Int.mul_le_mul_of_nonneg_left hb1 h0
    omega
  have hw : IntKind.i64.wrap m = m := IntWalk.i64_in m ⟨by omega, by omega⟩
  have hnl : (zeros m.toNat z.cells.toList).length = m.toNat * ie.size := by rw [zeros_length]; simp [hzs]
  have hone' : (zeros m.toNat z.cells.toList).all Value.oneCell' = true := by
    unfold zeros
    rw [List.all_flatten]
    simp only [List.all_replicate]
    split <;> simp_all
  have happ : ∀ w : World, (if m.toNat * ie.size = 0 then pure #[] else do pure (Builtin.zeroCells (← zeroValue el).cells m.toNat) : Sem (Array Value)).run P w = .ok (zeros m.toNat z.cells.toList).toArray w := by
    intro w
    by_cases hz0 : m.toNat * ie.size = 0
    · rw [if_pos hz0]
      have : zeros m.toNat z.cells.toList = [] := List.eq_nil_of_length_eq_zero (by rw [hnl, hz0])
      rw [this]; rfl
    · rw [if_neg hz0]
      simp only [Sem.run_bind, run_zeroValue' hie hz, Result.andThen_ok, Sem.run_pure, Builtin.zeroCells, zeros_eq]
  have hc1 : ¬ m < 0 := by omega
  have hc2 : ¬ m * (ie.bytes : Int) > 2 ^ 48 := by omega
  unfold Builtin.append_
  by_cases hfit : s.n + m.toNat ≤ s.c
  · rcases hroom hfit with ⟨hm, hk⟩ | ⟨x, hx, hmay, hk⟩
    · refine ⟨s, L, w, hk, hr, ?_⟩
      have hn0 : zeros m.toNat z.cells.toList = [] := List.eq_nil_of_length_eq_zero (by rw [hnl, hm]; simp)
      have happ' := happ w
      rw [hn0] at happ'
      simp only [List.getElem?_toArray, List.getElem?_cons_zero, List.getElem?_cons_succ, Sem.run_bind, run_underlying' hu, run_underlying' hu', Result.andThen_ok, run_sizeOf' hie, Sem.run_pure, asInt, asIntOf, hw, if_true, run_typeInfo' hie]
      rw [if_neg hc1]
      simp only [Sem.run_bind, run_typeInfo' hie, Result.andThen_ok]
      rw [if_neg hc2]
      simp only [Sem.run_pure, Result.andThen_ok, Sem.run_bind]
      rw [if_pos hfit]
      simp only [Bool.not_true, Bool.false_eq_true, if_false, Sem.run_bind]
      rw [happ']
      simp only [Result.andThen_ok, hm, Nat.add_zero]
      cases s.a <;> simp [storeCells]
    · refine ⟨_, _, _, hk, hr.sets hmay, ?_⟩
      have hst := run_storesL (P := P) hr.inv hone' hmay
      simp only [List.getElem?_toArray, List.getElem?_cons_zero, List.getElem?_cons_succ, Sem.run_bind, run_underlying' hu, run_underlying' hu', Result.andThen_ok, run_sizeOf' hie, Sem.run_pure, asInt, asIntOf, hw, if_true, run_typeInfo' hie]
      rw [if_neg hc1]
      simp only [Sem.run_bind, run_typeInfo' hie, Result.andThen_ok]
      rw [if_neg hc2]
      simp only [Sem.run_pure, Result.andThen_ok, Sem.run_bind]
      rw [if_pos hfit]
      simp only [Bool.not_true, Bool.false_eq_true, if_false, Sem.run_bind]
      rw [happ]
      simp only [Result.andThen_ok, hx, Sem.run_bind, hst, Sem.run_pure]
  · obtain ⟨old, hold, hk⟩ := hgrow (by omega)
    have hn2 : Builtin.nextslicecap (s.n + m.toNat) s.c * ie.bytes ≤ 2 ^ 48 := hnext (by omega)
    have hneed : ¬ (((s.n + m.toNat : Nat) : Int) > IntKind.i64.max) := by
      have : (s.n + m.toNat) * 1 ≤ (s.n + m.toNat) * ie.bytes := Nat.mul_le_mul_left _ (by omega)
      have e : IntKind.i64.max = 9223372036854775807 := rfl
      rw [e]; omega
    let w1 : World := { w with drawn := w.drawn + 1 }
    have hi1 : Inv L B w1 := hr.inv.drew _
    have hold' := run_firstCells (P := P) (n := s.n) (c := s.c) hold hi1
    obtain ⟨c', hc'⟩ : ∃ c', c' = (Question.appendCap (s.n + m.toNat) s.c el).cut (w.tape w.drawn (.appendCap (s.n + m.toNat) s.c el)) := ⟨_, rfl⟩
    have hge : s.n + m.toNat ≤ c' := by rw [hc']; simp only [Question.cut]; omega
    have hrest : (old ++ zeros m.toNat z.cells.toList) <+: (old.toArray ++ (zeros m.toNat z.cells.toList).toArray ++ Builtin.zeroCells z.cells (c' - (s.n + m.toNat))).toList := by simp
    have hsz : c' * ie.size ≤ (old.toArray ++ (zeros m.toNat z.cells.toList).toArray ++ Builtin.zeroCells z.cells (c' - (s.n + m.toNat))).size := by
      simp only [Array.size_append, List.size_toArray, Builtin.zeroCells, Array.size_map, Array.size_range, hold.1, hnl, hzs]
      rw [← Nat.add_mul, ← Nat.add_mul]
      apply Nat.le_of_eq; congr 1; omega
    refine ⟨_, _, _, hk _ c' (hi1.fresh (Nat.le_refl _)) hge, { hr with inv := hi1.alloc _ el _ _ hrest hsz }, ?_⟩
    simp only [List.getElem?_toArray, List.getElem?_cons_zero, List.getElem?_cons_succ, Sem.run_bind, run_underlying' hu, run_underlying' hu', Result.andThen_ok, run_sizeOf' hie, Sem.run_pure, asInt, asIntOf, hw, if_true, run_typeInfo' hie]
    rw [if_neg hc1]
    simp only [Sem.run_bind, run_typeInfo' hie, Result.andThen_ok]
    rw [if_neg hc2]
    simp only [Sem.run_pure, Result.andThen_ok, Sem.run_bind]
    rw [if_neg hfit]
    simp only [Sem.run_bind, run_typeInfo' hie, Result.andThen_ok]
    rw [if_neg (by intro hh; exact hneed hh.1)]
    simp only [Sem.run_bind, run_typeInfo' hie, Result.andThen_ok, Sem.run_pure]
    rw [if_neg (by omega)]
    simp only [Sem.run_bind, Sem.run_pure, Result.andThen_ok, run_choose, Question.forced, Bool.false_eq_true, if_false, run_typeInfo' hie, run_askRoom, ← hc', Bool.not_true]
    have hold2 : (Builtin.firstCells ie.size s.n (.slice s.a s.n s.c)).run P { w with drawn := w.drawn + 1 } = .ok old.toArray { w with drawn := w.drawn + 1 } := hold'
    rw [hold2]
    simp only [Result.andThen_ok]
    rw [happ]
    simp only [Result.andThen_ok, run_zeroValue' hie hz, newRow, run_newObj, w1, Sem.run_bind, Sem.run_pure]

end
end Go.Proofs.YtcnkbjipogngaaaDoor.GH

namespace Go.Proofs.YtcnkbjipogngaaaDoor.GH
open Go

section
variable {P : Program} {B0 B : Boxes} {e : Env} {S : Sto} {L : GHeap} {bs : Nat → Nat} {a : Act} {w : World}

theorem Inv.newObj (h : Inv L B w) (o : Obj) (ho : isCells o = false) : Inv (L.setObj w.heap.size o) B { w with heap := w.heap.push o } := by
  have hp := h.push o
  refine ⟨hp.mem, hp.wr, hp.lo, fun r o' e => ?_, hp.box, fun b cs e => ?_, hp.blo, hp.below, hp.size, hp.pl⟩
  · unfold GHeap.setObj at e
    simp only at e
    split at e
    · rename_i hr; cases e; subst hr; exact ⟨by simp, ho⟩
    · exact hp.obj r o' e
  · obtain ⟨h1, h2⟩ := h.dis b cs e
    refine ⟨h1, ?_⟩
    unfold GHeap.setObj
    simp only
    rw [if_neg (by have := h.box_lt e; omega)]; exact h2

theorem Inv.putObj (h : Inv L B w) {r : Nat} {o o' : Obj} (hr : L.obj r = some o) (hn : L.n0 ≤ r) (ho : isCells o' = false) : Inv (L.setObj r o') B { w with heap := w.heap.setIfInBounds r o' } := by
  obtain ⟨hw, hc⟩ := h.obj r o hr
  have hlt : r < w.heap.size := (Array.getElem?_eq_some_iff.1 hw).1
  have hother : ∀ b, b ≠ r → (w.heap.setIfInBounds r o')[b]? = w.heap[b]? := fun b hb => by simp [Ne.symm hb]
  have hcell : ∀ x : Addr, (w.cell? x).isSome = true → x.block ≠ r := fun x hx e => by
    unfold World.cell? at hx
    rw [e, hw] at hx
    cases o <;> first | (cases hc; done) | (cases hx; done)
  have key : ∀ x : Addr, x.block ≠ r → World.cell? { w with heap := w.heap.setIfInBounds r o' } x = w.cell? x ∧ World.frozen? { w with heap := w.heap.setIfInBounds r o' } x = w.frozen? x := fun x hx => by
    unfold World.cell? World.frozen?
    simp only [hother x.block hx]
    exact ⟨trivial, trivial⟩
  refine ⟨fun x v e => ?_, fun x e => ?_, h.lo, fun r' o2 e => ?_, fun b cs e => ?_, fun b cs e => ?_, h.blo, ?_, by have := h.size; simp only [Array.size_setIfInBounds]; exact this, fun x e => ?_⟩
  · have := h.mem x v e
    rw [(key x (hcell x (by rw [this]; rfl))).1]; exact this
  · have := h.wr x e
    have hk := key x (hcell x this.1)
    rw [hk.1, hk.2]; exact this
  · unfold GHeap.setObj at e
    simp only at e
    split at e
    · rename_i he; cases e; subst he
      exact ⟨by simp [hlt], ho⟩
    · rename_i he
      have := h.obj r' o2 e
      exact ⟨by simp only [hother r' he]; exact this.1, this.2⟩
  · obtain ⟨T, ht⟩ := h.box b cs e
    have hb : b ≠ r := fun he => by
      subst he; rw [hw] at ht; cases ht; cases hc
    exact ⟨T, by simp only [hother b hb]; exact ht⟩
  · obtain ⟨h1, h2⟩ := h.dis b cs e
    refine ⟨h1, ?_⟩
    unfold GHeap.setObj
    simp only
    rw [if_neg (fun he => by rw [he, hr] at h2; cases h2)]; exact h2
  · have hb := h.below
    exact ⟨hb.os, hb.tape, hb.output, by have := hb.size; simp only [Array.size_setIfInBounds]; exact this, fun k hk => by
      have : k ≠ r := fun he => by subst he; exact absurd hk (by show ¬ k < L.n0; omega)
      simp only [hother k this]; exact hb.block k hk⟩
  · obtain ⟨cs, T, ht⟩ := h.pl x e
    have hb : x.block ≠ r := hcell x (h.wr x e).1
    exact ⟨cs, T, by simp only [hother _ hb]; exact ht⟩

theorem Rel.newObj (hr : Rel B0 e S L bs B a w) (o : Obj) (ho : isCells o = false) : Rel B0 e S (L.setObj w.heap.size o) bs B a { w with heap := w.heap.push o } :=
  { hr with inv := hr.inv.newObj o ho }

theorem makeMap_sound {t : TypeId} {r : Option Operand} {k : Nat → GHeap → Prop} (h : makeMapK P t (r.map e.ev) L k) (hr : Rel B0 e S L bs B a w) :
    k w.heap.size (L.setObj w.heap.size (.map #[] 0)) ∧ (Instr.makeMap t (r.map a.eval)).run P w = .ok (.map (some w.heap.size)) { w with heap := w.heap.push (.map #[] 0) } := by
  unfold makeMapK at h
  cases r with
  | none =>
    simp only [Option.map_none] at h ⊢
    exact ⟨h _ (hr.inv.fresh (Nat.le_refl _)) hr.inv.size, by simp [Instr.makeMap]⟩
  | some x =>
    simp only [Option.map_some] at h ⊢
    have hx := hr.ev x
    split at h
    · rename_i he; cases he
    · rename_i kd n he
      injection he with he
      rw [he] at hx
      simp only [AVr] at hx
      split at h
      · rename_i hu
        refine ⟨h _ (hr.inv.fresh (Nat.le_refl _)) hr.inv.size, ?_⟩
        simp [Instr.makeMap, run_underlying' hu, hx, asInt, asIntOf]
      · exact h.elim
    · exact h.elim

theorem MapO.nil {k : TypeId} {c : Nat} : MapO P k (.map #[] c) fun _ => none := ⟨#[], c, rfl, by simp, by simp, by simp⟩

theorem look_run {t : TypeId} {m : Option Nat} {i v : Value} {ok cok : Bool} (h : lookIs P t L m i v ok) (hi : Inv L B w) :
    (Instr.lookup t (.map m) i cok).run P w = .ok (if cok then .tuple #[v, .bool ok] else v) w := by
  obtain ⟨k, e, ie, z, f, hu, hK, ⟨l, hl⟩, hie, hz, hf, rfl, rfl⟩ := h
  have hzr := run_zeroValue' (P := P) (w := w) hie hz
  cases m with
  | none =>
    simp only [mapF] at hf
    subst hf
    have hfind := hK.find w hl [] (by simp)
    rcases hfind with ⟨h1, _⟩ | ⟨j, e0, _, h2, _⟩
    · simp only [Instr.lookup, Sem.run_bind, run_underlying' hu, Result.andThen_ok, Sem.run_pure, hK.check w _ hl]
      rw [h1]
      simp only [Result.andThen_ok, Sem.run_bind, hzr, Sem.run_pure]
      rfl
    · simp at h2
  | some r =>
    obtain ⟨o, ho, es, c, rfl, hkeys, hpw, hff⟩ := hf
    have hw := (hi.obj r _ ho).1
    have hget : (getObj r).run P w = .ok (.map es c) w := by simp [getObj, Sem.run, hw]
    rcases hK.find w hl es.toList hkeys with ⟨h1, h2⟩ | ⟨j, e0, h1, h2, h3⟩
    · have hn : f i = none := by
        cases hfi : f i with
        | none => rfl
        | some v => obtain ⟨x, hx, hk, _⟩ := (hff i v).1 hfi; exact absurd hk (h2 x hx)
      simp only [Instr.lookup, Sem.run_bind, run_underlying' hu, Result.andThen_ok, Sem.run_pure, hget, hK.check w _ hl, h1, hzr, hn]
      rfl
    · have hs : f i = some e0.val := (hff i _).2 ⟨e0, List.mem_of_getElem? h2, h3, rfl⟩
      simp only [Instr.lookup, Sem.run_bind, run_underlying' hu, Result.andThen_ok, Sem.run_pure, hget, hK.check w _ hl, h1, hs]
      rfl

theorem look_sound {t : TypeId} {m i : Value} {cok : Bool} {k : Value → Prop} (h : lookK P t m i cok L k) (hi : Inv L B w) : ∃ v, k v ∧ (Instr.lookup t m i cok).run P w = .ok v w := by
  unfold lookK at h
  split at h
  · split at h
    · obtain ⟨v, ok, h1, h2⟩ := exVal_some h
      exact ⟨_, h2, by rw [look_run h1 hi]; rfl⟩
    · obtain ⟨v, ok, h1, h2⟩ := exVal_some h
      exact ⟨_, h2, by rw [look_run h1 hi]; rfl⟩
  · exact h.elim

theorem upd_sound {t : TypeId} {m i v : Value} {k : GHeap → Prop} (h : updK P t m i v L k) (hr : Rel B0 e S L bs B a w) :
    ∃ L' w', k L' ∧ Rel B0 e S L' bs B a w' ∧ (Instr.mapUpdate t m i v).run P w = .ok () w' := by
  unfold updK at h
  split at h
  · obtain ⟨key, el, r, o, f, hu, rfl, hn, ho, hK, ⟨l, hl⟩, ⟨es, c, rfl, hkeys, hpw, hff⟩, hk⟩ := h
    have hw := (hr.inv.obj r _ ho).1
    have hget : (getObj r).run P w = .ok (.map es c) w := by simp [getObj, Sem.run, hw]
    have hset : ∀ o', (setObj r o').run P w = .ok () { w with heap := w.heap.setIfInBounds r o' } := fun o' => by simp [setObj, Sem.run, hw]
    rcases hK.find w hl es.toList hkeys with ⟨h1, h2⟩ | ⟨j, e0, h1, h2, h3⟩
    · refine ⟨_, _, hk (.map (es.push { key := i, val := v, born := c }) (c + 1)) ⟨_, _, rfl, ?_, ?_, ?_⟩, { hr with inv := hr.inv.putObj ho hn rfl }, ?_⟩
      · intro x hx
        simp only [Array.toList_push, List.mem_append, List.mem_singleton] at hx
        rcases hx with hx | rfl
        · exact hkeys x hx
        · exact ⟨l, hl⟩
      · rw [Array.toList_push, List.pairwise_append]
        exact ⟨hpw, by simp, fun x hx y hy => by rw [List.mem_singleton] at hy; subst hy; exact h2 x hx⟩
      · intro k' v'
        unfold fput
        simp only [Array.toList_push, List.mem_append, List.mem_singleton]
        by_cases hki : k' = i
        · subst hki
          rw [if_pos rfl]
          constructor
          · intro e'; cases e'; exact ⟨_, .inr rfl, rfl, rfl⟩
          · rintro ⟨x, hx | rfl, h4, h5⟩
            · exact absurd h4 (h2 x hx)
            · rw [← h5]
        · rw [if_neg hki, hff]
          constructor
          · rintro ⟨x, hx, h4, h5⟩; exact ⟨x, .inl hx, h4, h5⟩
          · rintro ⟨x, hx | rfl, h4, h5⟩
            · exact ⟨x, hx, h4, h5⟩
            · exact absurd h4.symm hki
      · simp only [Instr.mapUpdate, Sem.run_bind, run_underlying' hu, Result.andThen_ok, hget, hK.check w _ hl, h1, hset]
    · have hjlt : j < es.size := by have := (List.getElem?_eq_some_iff.1 h2).1; simpa using this
      have hej : es[j]? = some e0 := by rw [← Array.getElem?_toList]; exact h2
      have hmod : (es.modify j fun e => { e with key := i, val := v }).toList = es.toList.modify j fun e => { e with key := i, val := v } := by simp
      have hgetm : ∀ (n : Nat) (x : MapEntry), (es.toList.modify j fun e => { e with key := i, val := v })[n]? = some x → ∃ y, es.toList[n]? = some y ∧ x.key = y.key ∧ (n = j → x.val = v) ∧ (n ≠ j → x = y) := by
        intro n x hx
        rw [List.getElem?_modify] at hx
        cases hy : es.toList[n]? with
        | none => rw [hy] at hx; cases hx
        | some y =>
          rw [hy] at hx
          refine ⟨y, rfl, ?_⟩
          by_cases hnj : j = n
          · subst hnj
            rw [h2] at hy; cases hy
            simp at hx; subst hx
            exact ⟨h3.symm, fun _ => rfl, fun h => absurd rfl h⟩
          · simp [hnj] at hx; subst hx
            exact ⟨rfl, fun h => absurd h.symm hnj, fun _ => rfl⟩
      refine ⟨_, _, hk (.map (es.modify j fun e => { e with key := i, val := v }) c) ⟨_, _, rfl, ?_, ?_, ?_⟩, { hr with inv := hr.inv.putObj ho hn rfl }, ?_⟩
      · intro x hx
        rw [hmod] at hx
        obtain ⟨n, hx⟩ := List.getElem?_of_mem hx
        obtain ⟨y, hy, hk', _⟩ := hgetm n x hx
        rw [hk']; exact hkeys y (List.mem_of_getElem? hy)
      · rw [hmod, List.pairwise_iff_getElem]
        intro p q hp hq hpq
        obtain ⟨y, hy, hk1, _⟩ := hgetm p _ (List.getElem?_eq_getElem hp)
        obtain ⟨z, hz, hk2, _⟩ := hgetm q _ (List.getElem?_eq_getElem hq)
        rw [hk1, hk2]
        obtain ⟨hp', rfl⟩ := List.getElem?_eq_some_iff.1 hy
        obtain ⟨hq', rfl⟩ := List.getElem?_eq_some_iff.1 hz
        exact List.pairwise_iff_getElem.1 hpw p q hp' hq' hpq
      · intro k' v'
        rw [hmod]
        have hself : (es.toList.modify j fun e => { e with key := i, val := v })[j]? = some { e0 with key := i, val := v } := by
          rw [List.getElem?_modify, h2]; simp
        unfold fput
        by_cases hki : k' = i
        · subst hki
          rw [if_pos rfl]
          constructor
          · intro e'; cases e'; exact ⟨_, List.mem_of_getElem? hself, rfl, rfl⟩
          · rintro ⟨x, hx, h4, h5⟩
            obtain ⟨n, hx⟩ := List.getElem?_of_mem hx
            obtain ⟨y, hy, hk1, hv1, _⟩ := hgetm n x hx
            have hnj : n = j := by
              apply Classical.byContradiction
              intro hne
              obtain ⟨hn', rfl⟩ := List.getElem?_eq_some_iff.1 hy
              obtain ⟨hj', rfl⟩ := List.getElem?_eq_some_iff.1 h2
              rcases Nat.lt_or_gt_of_ne hne with hlt | hlt
              · exact List.pairwise_iff_getElem.1 hpw n j hn' hj' hlt (by rw [h3, ← hk1, h4])
              · exact List.pairwise_iff_getElem.1 hpw j n hj' hn' hlt (by rw [h3, ← hk1, h4])
            rw [← h5, hv1 hnj]
        · rw [if_neg hki, hff]
          constructor
          · rintro ⟨x, hx, h4, h5⟩
            obtain ⟨n, hx⟩ := List.getElem?_of_mem hx
            have hne : j ≠ n := fun e' => by subst e'; rw [h2] at hx; cases hx; exact hki (by rw [← h4, h3])
            refine ⟨x, List.mem_of_getElem? (i := n) ?_, h4, h5⟩
            rw [List.getElem?_modify, hx]; simp [hne]
          · rintro ⟨x, hx, h4, h5⟩
            obtain ⟨n, hx⟩ := List.getElem?_of_mem hx
            obtain ⟨y, hy, hk1, hv1, hx1⟩ := hgetm n x hx
            have hne : n ≠ j := fun e' => by
              subst e'; rw [h2] at hy; cases hy
              exact hki (by rw [← h4, hk1, h3])
            rw [hx1 hne] at h4 h5
            exact ⟨y, List.mem_of_getElem? hy, h4, h5⟩
      · have hst : (Instr.keyThatStays (((es[j]?).map (·.key)).getD i) i).run P w = .ok i w := by
          rw [hej]; simp only [Option.map_some, Option.getD_some]; rw [h3]; exact hK.stays w hl
        simp only [Instr.mapUpdate, Sem.run_bind, run_underlying' hu, Result.andThen_ok, hget, hK.check w _ hl, h1, hst, hset]
  · exact h.elim

end
end Go.Proofs.YtcnkbjipogngaaaDoor.GH

namespace Go.Proofs.YtcnkbjipogngaaaDoor.GH
open Go

section
variable {P : Program} {B0 B : Boxes} {e : Env} {S : Sto} {L : GHeap} {bs : Nat → Nat} {a : Act} {w : World}

theorem buildSlice_sound {t : TypeId} {len : Nat} {parts : List (Nat × AV)} {cs : List Value} (h : buildSliceV P t len parts = some cs) {vals : List (Nat × Value)} (hl : parts.length = vals.length)
    (hr : ∀ (i : Nat) (x : Nat × AV) (v : Nat × Value), parts[i]? = some x → vals[i]? = some v → x.1 = v.1 ∧ AVr bs x.2 v.2) (w : World) :
    ∃ el, (Instr.buildSlice t len vals.toArray).run P w = .ok (.slice (some ⟨w.heap.size, 0, none⟩) len len) { w with heap := w.heap.push (.cells cs.toArray el) } := by
  unfold buildSliceV at h
  split at h
  · rename_i el hu
    split at h
    · rename_i ie hie
      cases hb : Nat.ble (len * ie.size) 16777216 with
      | false => rw [hb] at h; cases h
      | true =>
        rw [hb] at h
        simp only [cond_true] at h
        have hb := Nat.le_of_ble_eq_true hb
        split at h
        · rename_i z hz
          cases hzs : Nat.beq z.cells.size ie.size with
          | false => rw [hzs] at h; cases h
          | true =>
            rw [hzs] at h
            simp only [cond_true] at h
            have hzs := Nat.eq_of_beq_eq_true hzs
            have hf := fill_sound parts vals _ cs h hl hr
            refine ⟨el, ?_⟩
            unfold Instr.buildSlice
            simp only [run_underlying' hu, Sem.run_bind, Result.andThen_ok, run_sizeOf' hie]
            rw [if_neg (by omega)]
            have hm : (Array.range (len * ie.size)).map (fun i => z.cells[i % z.cells.size]!) = (zeros len z.cells.toList).toArray := by rw [← hzs]; exact zeros_eq _ _
            by_cases h0 : len * ie.size = 0
            · have hz0 : zeros len z.cells.toList = [] := by
                apply List.eq_nil_of_length_eq_zero; rw [zeros_length]; simp [hzs, h0]
              rw [hz0] at hf
              have he : (Array.range (len * ie.size)).map (fun i => (#[] : Array Value)[i % (#[] : Array Value).size]!) = #[] := by rw [h0]; apply Array.ext'; simp
              simp only [if_pos h0, Sem.run_bind, Sem.run_pure, Result.andThen_ok]
              have hf' : Instr.fill (fun i => some (i * ie.size, ie.size)) #[] vals = some cs.toArray := hf
              rw [he, hf']
              simp [newRow]
            · simp only [if_neg h0, Sem.run_bind, run_zeroValue' hie hz, Result.andThen_ok, Sem.run_pure]
              rw [hm, hf]
              simp [newRow]
        · cases h
    · cases h
  · cases h

theorem parts_rel {ev : Operand → AV} {ρ : Operand → Value} (hr : ∀ o, AVr bs (ev o) (ρ o)) (parts : Array (Nat × Operand)) :
    (parts.toList.map fun p => (p.1, ev p.2)).length = (parts.toList.map fun p => (p.1, ρ p.2)).length ∧
    ∀ (i : Nat) (x : Nat × AV) (v : Nat × Value), (parts.toList.map fun p => (p.1, ev p.2))[i]? = some x → (parts.toList.map fun p => (p.1, ρ p.2))[i]? = some v → x.1 = v.1 ∧ AVr bs x.2 v.2 := by
  refine ⟨by simp, fun i x v hx hv => ?_⟩
  simp only [List.getElem?_map, Option.map_eq_some_iff] at hx hv
  obtain ⟨p, hp, rfl⟩ := hx
  obtain ⟨q, hq, rfl⟩ := hv
  rw [hp] at hq; cases hq
  exact ⟨rfl, hr _⟩

theorem app_sound {t t' ty : TypeId} {sv xv : AV} {vs vx : Value} {k : Sl → GHeap → Prop} (h : appK P t t' sv xv S L k) (hr : Rel B0 e S L bs B a w) (hs : AVr bs sv vs) (hx : AVr bs xv vx) :
    ∃ s' L' w', k s' L' ∧ Rel B0 e S L' bs B a w' ∧ (Builtin.append_ #[t, t'] ty #[vs, vx]).run P w = .ok (.slice s'.a s'.n s'.c) w' := by
  unfold appK at h
  split at h
  · rename_i el A n c hu
    cases hs
    split at h
    · rename_i ie hie
      split at h
      · split at h
        · exact h.elim
        · rename_i hcond
          simp only [Bool.and_eq_true, Bool.not_eq_true'] at hcond
          have hb0 : ie.bytes ≠ 0 := fun he => by have := hcond.1; rw [he] at this; cases this
          obtain ⟨kk, hu'⟩ : ∃ kk, P.underlying t' = some (.int kk) := by
            have := hcond.2
            unfold isIntT at this
            split at this
            · rename_i k hk; exact ⟨k, hk⟩
            · cases this
          split at h
          · exact h.elim
          · rename_i z hz
            split at h
            · exact h.elim
            · rename_i hzs
              simp only [Bool.and_eq_true] at hzs
              split at h
              · obtain ⟨⟨h0, hm⟩, h⟩ := h
                cases hx
                exact append_zeros (s := ⟨A, n, c⟩) hu hie hz (Nat.eq_of_beq_eq_true hzs.1) hu' hb0 h0 hm h hr hzs.2
              · exact h.elim
      · rename_i hcond
        simp only [Bool.or_eq_false_iff] at hcond
        obtain ⟨⟨hb0, hni⟩, hud⟩ := hcond
        have hb0 : ie.bytes ≠ 0 := fun he => by rw [he] at hb0; cases hb0
        obtain ⟨d', hu'⟩ : ∃ d', P.underlying t' = some d' := by
          cases hh : P.underlying t' with
          | none => rw [hh] at hud; cases hud
          | some d => exact ⟨d, rfl⟩
        split at h
        · exact h.elim
        · rename_i z hz
          split at h
          · exact h.elim
          · rename_i hzs
            have hzs := Nat.eq_of_beq_eq_true hzs
            split at h
            · rename_i d m
              split at h
              · exact h.elim
              · rename_i cs hcs
                split at h
                · rename_i hc
                  simp only [Bool.and_eq_true] at hc
                  have hl := Nat.eq_of_beq_eq_true hc.1
                  obtain ⟨hbx, _⟩ := hr.own d cs hcs
                  cases hx
                  refine append_sound (s := ⟨A, n, c⟩) hu hie hz hzs hu' hni hb0 h hr hl hc.2 rfl (fun w' hi' _ => ?_)
                  simp only [Builtin.firstCells]
                  rw [← hl]
                  unfold loadCells
                  rw [run_loads cs _ 0 #[] (fun j v hj => by rw [Nat.zero_add, add_spot rfl, Nat.zero_add, (box_cell hi' hbx j).1]; exact hj)]
                  simp
                · exact h.elim
            · rename_i Bx m cb
              obtain ⟨cs, ⟨hrd, hone⟩, h⟩ := h
              cases hx
              exact append_sound (s := ⟨A, n, c⟩) hu hie hz hzs hu' hni hb0 h hr hrd.1 hone rfl (fun w' hi' _ => run_firstCells hrd hi')
            · exact h.elim
    · exact h.elim
  · exact h.elim

theorem copy_sound {t t' ty : TypeId} {dv sv : AV} {vd vs : Value} {k : Nat → GHeap → Prop} (h : copyK P t dv sv L k) (hr : Rel B0 e S L bs B a w) (hd : AVr bs dv vd) (hs : AVr bs sv vs) :
    ∃ n L' w', k n L' ∧ Rel B0 e S L' bs B a w' ∧ (Builtin.copy_ #[t, t'] ty #[vd, vs]).run P w = .ok (.int .i64 (n : Nat)) w' := by
  unfold copyK at h
  split at h
  · rename_i el A n c B' m c' hu
    split at h
    · rename_i ie hie
      obtain ⟨cs, ⟨hrd, hone⟩, h⟩ := h
      cases hd; cases hs
      have hrun := run_firstCells (P := P) (n := m) (c := c') hrd hr.inv
      rcases h with ⟨hz, hk⟩ | ⟨x, rfl, hm, hk⟩
      · have hcs : cs = [] := List.eq_nil_of_length_eq_zero (by have := hrd.1; rw [hz] at this; omega)
        subst hcs
        refine ⟨_, _, _, hk, hr, ?_⟩
        cases A <;> simp [Builtin.copy_, run_underlying' hu, Builtin.lenOf, run_sizeOf' hie, hrun, storeCells, goInt]
      · refine ⟨_, _, _, hk, hr.sets hm, ?_⟩
        have hst := run_storesL (P := P) hr.inv hone hm
        simp [Builtin.copy_, run_underlying' hu, Builtin.lenOf, run_sizeOf' hie, hrun, hst, goInt]
    · exact h.elim
  · exact h.elim

theorem clear_sound {t ty : TypeId} {sv : AV} {vs : Value} {k : GHeap → Prop} (h : clearK P t sv L k) (hr : Rel B0 e S L bs B a w) (hs : AVr bs sv vs) :
    ∃ L' w', k L' ∧ Rel B0 e S L' bs B a w' ∧ (Builtin.clear_ #[t] ty #[vs]).run P w = .ok undef w' := by
  unfold clearK at h
  split at h
  · rename_i el A n c hu
    split at h
    · rename_i ie hie
      split at h
      · rename_i z hz
        split at h
        · rename_i hone
          cases hs
          have h0 : n = 0 → (Builtin.clear_ #[t] ty #[.slice A n c]).run P w = .ok undef w := by
            rintro rfl
            cases A <;> simp [Builtin.clear_, run_underlying' hu, undef]
          rcases h with ⟨hn, hk⟩ | ⟨x, rfl, hm, hk⟩
          · exact ⟨_, _, hk, hr, h0 hn⟩
          · rcases Nat.eq_zero_or_pos n with hn | hn
            · subst hn
              exact ⟨_, _, hk, hr, h0 rfl⟩
            · refine ⟨_, _, hk, hr.sets hm, ?_⟩
              have hall : (zeros n z.cells.toList).all Value.oneCell' = true := by
                rw [List.all_eq_true] at hone ⊢
                intro v hv
                obtain ⟨l, hl, hvl⟩ := List.mem_flatten.1 hv
                rw [List.mem_replicate] at hl
                exact hone v (hl.2 ▸ hvl)
              have hst := run_storesL (P := P) hr.inv hall hm
              have hzc : (Builtin.zeroCells z.cells n).toList = zeros n z.cells.toList := by rw [Builtin.zeroCells, zeros_eq]
              obtain ⟨m, rfl⟩ : ∃ m, n = m + 1 := ⟨n - 1, by omega⟩
              simp [Builtin.clear_, run_underlying' hu, run_zeroValue' hie hz, hzc, hst, undef]
        · exact h.elim
      · exact h.elim
    · exact h.elim
  · exact h.elim

def uponR (P : Program) (R : Value → World → Prop) : Result Next → Prop
  | .ok (.value v) w' => R v w'
  | .ok .skip w' => R undef w'
  | .ok (.enter f args) w' => Calls P f args w' fun e w'' => ∃ v, e = .returned v ∧ R v w''
  | _ => False

theorem uponR.upon {o : Oper} {R : Value → World → Prop} {next : Act → World → Prop} {Q : Exit → Act → World → Prop} {r : Result Next} (h : uponR P R r) (a : Act) (hn : ∀ v w', R v w' → next (a.put o.dst v) w') :
    o.upon P a next Q r := by
  cases r with
  | ok n w' =>
    cases n <;> simp only [uponR] at h <;> first | exact h.elim | skip
    · exact hn _ _ h
    · exact hn _ _ h
    · simp only [Oper.upon]
      refine h.mono ?_
      rintro e w'' ⟨v, rfl, hr⟩
      exact hn _ _ hr
  | halt x w' => exact h.elim

theorem uponR.mono {R R' : Value → World → Prop} {r : Result Next} (h : uponR P R r) (hn : ∀ v w', R v w' → R' v w') : uponR P R' r := by
  cases r with
  | ok n w' =>
    cases n <;> simp only [uponR] at h ⊢ <;> first | exact h.elim | exact hn _ _ h | exact h.mono fun e w'' ⟨v, he, hr⟩ => ⟨v, he, hn _ _ hr⟩
  | halt x w' => exact h.elim

theorem mem_sound {hp : Nat → Bool} {o : Oper} {k : AV → Sto → GHeap → Prop} (h : memK P hp e.ev o S L k) (hr : Rel B0 e S L bs B a w) :
    uponR P (Left B0 e S bs (isStore o.op) a k) ((execOp a.eval o).run P w) := by
  generalize hst : isStore o.op = st
  have st0 : ∀ {v w'}, st = false → Left B0 e S bs false a k v w' → Left B0 e S bs (st) a k v w' := fun hs hl => by rw [hs]; exact hl
  have fin : ∀ v w', (execOp a.eval o).run P w = .ok (.value v) w' → Left B0 e S bs st a k v w' → uponR P (Left B0 e S bs st a k) ((execOp a.eval o).run P w) := by
    intro v w' hrun hl
    rw [hrun]
    exact hl
  cases hop : o.op <;> simp only [memK, hop] at h <;> (try exact h.elim)
  case alloc t =>
    split at h
    · rename_i i hi
      obtain ⟨z, hz, h⟩ := optK_some h
      refine fin _ _ ?_ (st0 (by rw [← hst, hop]; rfl) (new_sound h hr t (v := .pointer (some ⟨w.heap.size, 0, none⟩)) ⟨rfl, trivial⟩ (fun d bs' hb => by simp [AVr, hb]) (fun d S' hS => hS)))
      simp [execOp, hop, Instr.alloc, run_zeroValue' hi hz, newVar, newRow]
    · exact h.elim
  case box t x =>
    have hx := hr.ev x
    unfold vK at h
    split at h
    · rename_i v hv
      rw [hv] at hx
      simp only [AVr] at hx
      refine fin _ _ ?_ (st0 (by rw [← hst, hop]; rfl) (new_sound h hr t (v := .pointer (some ⟨w.heap.size, 0, none⟩)) ⟨rfl, trivial⟩ (fun d bs' hb => by simp [AVr, hb]) (fun d S' hS => hS)))
      simp [execOp, hop, Instr.box, newVar, newRow, hx]
    · exact h.elim
  case buildSlice t len parts =>
    obtain ⟨cs, hcs, h⟩ := optK_some h
    obtain ⟨g1, g2⟩ := parts_rel (bs := bs) hr.ev parts
    obtain ⟨el, hrun⟩ := buildSlice_sound hcs g1 g2 w
    have he : (parts.toList.map fun p => (p.1, a.eval p.2)).toArray = parts.map fun p => (p.1, a.eval p.2) := by apply Array.ext'; simp
    rw [he] at hrun
    refine fin _ _ ?_ (st0 (by rw [← hst, hop]; rfl) (new_sound h hr el (v := .slice (some ⟨w.heap.size, 0, none⟩) len len) ⟨rfl, trivial⟩ (fun d bs' hb => by simp [AVr, hb]) (fun d S' hS => hS)))
    simp [execOp, hop, hrun]
  case load t p =>
    obtain ⟨u, hk, hrun⟩ := load_sound h hr (hr.ev p)
    refine fin u w ?_ ⟨_, _, _, _, _, hk, rfl, trivial, hr, fun _ k cs hk => ⟨hk, rfl⟩⟩
    simp [execOp, hop, hrun]
  case store t p x =>
    have hx := hr.ev x
    unfold vK at h
    split at h
    · rename_i v hv
      rw [hv] at hx
      simp only [AVr] at hx
      obtain ⟨S', L', B', w', hk, hr', hrun⟩ := store_sound h hr (hr.ev p)
      have : (execOp a.eval o).run P w = .ok .skip w' := by simp [execOp, hop, hx, hrun]
      rw [this]
      exact ⟨_, _, _, _, _, hk, rfl, trivial, hr', fun hs => by rw [← hst, hop] at hs; cases hs⟩
    · exact h.elim
  case makeMap t r =>
    obtain ⟨hk, hrun⟩ := makeMap_sound h hr
    exact fin _ _ (by simp [execOp, hop, hrun]) ⟨_, _, _, _, _, hk, rfl, trivial, hr.newObj _ rfl, fun _ k cs hk => ⟨hk, rfl⟩⟩
  case lookup t x i cok =>
    have hx := hr.ev x
    have hi := hr.ev i
    unfold vK at h
    split at h
    · rename_i vx hvx
      rw [hvx] at hx
      split at h
      · rename_i vi hvi
        rw [hvi] at hi
        simp only [AVr] at hx hi
        obtain ⟨v, hk, hrun⟩ := look_sound h hr.inv
        exact fin v w (by simp [execOp, hop, hx, hi, hrun]) ⟨_, _, _, _, _, hk, rfl, trivial, hr, fun _ k cs hk => ⟨hk, rfl⟩⟩
      · exact h.elim
    · exact h.elim
  case mapUpdate t x i y =>
    have hx := hr.ev x
    have hi := hr.ev i
    have hy := hr.ev y
    unfold vK at h
    split at h
    · rename_i vx hvx
      rw [hvx] at hx
      split at h
      · rename_i vi hvi
        rw [hvi] at hi
        split at h
        · rename_i vy hvy
          rw [hvy] at hy
          simp only [AVr] at hx hi hy
          obtain ⟨L', w', hk, hr', hrun⟩ := upd_sound h hr
          have : (execOp a.eval o).run P w = .ok .skip w' := by simp [execOp, hop, hx, hi, hy, hrun]
          rw [this]
          exact ⟨_, _, _, _, _, hk, rfl, trivial, hr', fun _ k cs hk => ⟨hk, rfl⟩⟩
        · exact h.elim
      · exact h.elim
    · exact h.elim
  case insert t x i y =>
    have hx := hr.ev x
    have hi := hr.ev i
    have hy := hr.ev y
    unfold vK at h
    split at h
    · rename_i vx hvx
      rw [hvx] at hx
      split at h
      · rename_i vi hvi
        rw [hvi] at hi
        split at h
        · rename_i vy hvy
          rw [hvy] at hy
          simp only [AVr] at hx hi hy
          obtain ⟨L', w', hk, hr', hrun⟩ := upd_sound h hr
          have : (execOp a.eval o).run P w = .ok .skip w' := by simp [execOp, hop, hx, hi, hy, hrun]
          rw [this]
          exact ⟨_, _, _, _, _, hk, rfl, trivial, hr', fun _ k cs hk => ⟨hk, rfl⟩⟩
        · exact h.elim
      · exact h.elim
    · exact h.elim
  case makeSlice t l c =>
    obtain ⟨s, L', w', hk, hr', hrun⟩ := makeSlice_sound h hr (hr.ev l) (hr.ev c)
    exact fin _ w' (by simp [execOp, hop, hrun]) ⟨_, _, _, _, _, hk, rfl, trivial, hr', fun _ k cs hk => ⟨hk, rfl⟩⟩
  case call c =>
    obtain ⟨callee, args, ats⟩ := c
    cases callee with
    | invoke r m => exact h.elim
    | builtin b =>
      cases b <;> (try exact h.elim)
      case copy =>
        simp only at h
        split at h
        · rename_i d s t t' hargs hats
          obtain ⟨n, L', w', hk, hr', hrun⟩ := copy_sound (ty := o.type) (t' := t') h hr (hr.ev d) (hr.ev s)
          refine fin _ w' ?_ ⟨_, _, _, _, _, hk, rfl, trivial, hr', fun _ k cs hk => ⟨hk, rfl⟩⟩
          have e1 : args = #[d, s] := by apply Array.ext'; simpa using hargs
          have e2 : ats = #[t, t'] := by apply Array.ext'; simpa using hats
          subst e1; subst e2
          simp [execOp, hop, resolve, invoke, builtin, hrun]
        · exact h.elim
      case clear =>
        simp only at h
        split at h
        · rename_i s t hargs hats
          obtain ⟨L', w', hk, hr', hrun⟩ := clear_sound (ty := o.type) h hr (hr.ev s)
          refine fin _ w' ?_ ⟨_, _, _, _, _, hk, rfl, trivial, hr', fun _ k cs hk => ⟨hk, rfl⟩⟩
          have e1 : args = #[s] := by apply Array.ext'; simpa using hargs
          have e2 : ats = #[t] := by apply Array.ext'; simpa using hats
          subst e1; subst e2
          simp [execOp, hop, resolve, invoke, builtin, hrun]
        · exact h.elim
      simp only at h
      split at h
      · rename_i s x t t' hargs hats
        obtain ⟨s', L', w', hk, hr', hrun⟩ := app_sound (ty := o.type) h hr (hr.ev s) (hr.ev x)
        replace hk := keepK_get hk
        refine fin _ w' ?_ ⟨_, _, _, _, _, hk, rfl, trivial, hr', fun _ k cs hk => ⟨hk, rfl⟩⟩
        have e1 : args = #[s, x] := by apply Array.ext'; simpa using hargs
        have e2 : ats = #[t, t'] := by apply Array.ext'; simpa using hats
        subst e1; subst e2
        simp only [List.map_toArray, List.map_cons, List.map_nil] at *
        simp [execOp, hop, resolve, invoke, builtin, hrun]
      · exact h.elim
    | value f =>
      simp only at h
      have hf := hr.ev f
      unfold isFnV at h
      split at h
      · rename_i g first caps hv
        rw [hv] at hf
        simp only [AVr] at hf
        obtain ⟨xs, hxs, h⟩ := optK_some h
        obtain ⟨⟨fn, hfn, hname⟩, hcall⟩ := h
        have hargs : args.toList.map a.eval = xs := vals_sound hr.ev _ _ hxs
        have hargs' : args.map a.eval = xs.toArray := by apply Array.ext'; rw [Array.toList_map]; exact hargs
        rcases hcall B w hr.inv with ⟨⟨fn', hfn', hbody⟩, hcall⟩ | ⟨fn', ex, v, w', hfn', hbody, hnx, hex, hrunx, v', L', hv, hi', hk⟩
        rotate_left
        · rw [hfn] at hfn'
          cases hfn'
          cases hv
          obtain ⟨u, hu, hk⟩ := exRes_some hk
          replace hk := keepK_get hk
          subst hu
          refine fin _ w' ?_ ⟨_, _, _, bs, B, hk, rfl, trivial, { hr with inv := hi' }, fun _ k cs hk => ⟨hk, rfl⟩⟩
          simp only [execOp, hop, resolve, Deferred.ofValue, hf, hargs', invoke, Sem.run_bind, Sem.run_pure, Result.andThen_ok, callFunc, run_program, hfn]
          rw [if_neg (by simp [hname]), if_pos hbody]
          have ea : (first.toList ++ xs ++ caps.toList).toArray = first ++ (xs.toArray ++ caps) := by apply Array.ext'; simp
          rw [ea] at hrunx
          simp [Sem.run_pure, hnx, hex, hrunx]
        rw [hfn] at hfn'
        cases hfn'
        have hrun : (execOp a.eval o).run P w = .ok (.enter g (first.toList ++ xs ++ caps.toList).toArray) w := by
          have hnb : fn.body.isNone = false := by cases hb : fn.body <;> simp_all
          simp only [execOp, hop, resolve, Deferred.ofValue, hf, hargs', invoke, Sem.run_bind, Sem.run_pure, Result.andThen_ok, callFunc, run_program, hfn]
          rw [if_neg (by simp [hname]), if_neg (by simp [hnb])]
          simp [Sem.run_pure]
        rw [hrun]
        simp only [uponR]
        refine hcall.mono ?_
        rintro e' w'' ⟨v, L', rfl, hi', hk⟩
        obtain ⟨u, hu, hk⟩ := exRes_some hk
        replace hk := keepK_get hk
        subst hu
        exact ⟨v, rfl, _, _, _, bs, B, hk, rfl, trivial, { hr with inv := hi' }, fun _ k cs hk => ⟨hk, rfl⟩⟩
      · exact h.elim

end
end Go.Proofs.YtcnkbjipogngaaaDoor.GH

namespace Go.Proofs.YtcnkbjipogngaaaDoor.GH
open Go

def putD (nt : Nat) (d : Option Nat) (x : AV) (e : Env) (k : Env → Prop) : Prop := match d with
  | none => k e
  | some d => match Nat.blt d nt with
    | true => k (e.put d x)
    | false => False

def isSliceT (P : Program) (t : TypeId) : Bool := match P.underlying t with
  | some (.slice _) => true
  | _ => false

def pureB (P : Program) (op : Op) : Bool := match op with
  | .move _ | .assign _ | .pick .. | .build .. | .nilCheck _ | .binOp .. | .unOp .. | .makeFunc .. | .fieldAddr .. | .field .. | .indexAddr .. | .index .. | .slice .. | .extract .. => true
  | .convert s _ _ => !isSliceT P s
  | .call { callee := .builtin b, .. } => match b with
    | .len | .cap | .min | .max => true
    | _ => false
  | _ => false

def opK (P : Program) (hp : Nat → Bool) (nt : Nat) (o : Oper) (e : Env) (S : Sto) (L : GHeap) (K : Env → Sto → GHeap → Prop) : Prop :=
  match pureB P o.op with
  | true => pureK P e.ev o.op fun x => putD nt o.dst x e fun e => K e S L
  | false => memK P hp e.ev o S L fun x S L => putD nt o.dst x e fun e => K e S L

def gsel (w : Bool) (X Y : Prop) : Prop := match w with
  | true => X
  | false => Y

def gK (P : Program) (hp : Nat → Bool) (nt : Nat) (ops : Array Oper) (o : Oper) (e : Env) (S : Sto) (L : GHeap) (K : Env → Sto → GHeap → Prop) : Prop :=
  match o.guard with
  | none => opK P hp nt o e S L K
  | some (j, want) => match ops.toList[j]? with
    | none => False
    | some g => match g.dst with
      | none => False
      | some d => match e d with
        | .v (.bool b) => bc b
          (gsel want (opK P hp nt o (e.put d (.v (.bool true))) S L K) (putD nt o.dst (.v undef) (e.put d (.v (.bool true))) fun e => K e S L))
          (gsel want (putD nt o.dst (.v undef) (e.put d (.v (.bool false))) fun e => K e S L) (opK P hp nt o (e.put d (.v (.bool false))) S L K))
        | .v (.tuple _) => putD nt o.dst (.v undef) e fun e => K e S L
        | _ => False

def atK (P : Program) (hp : Nat → Bool) (nt : Nat) (ops : Array Oper) (i : Nat) (K : Env → Sto → GHeap → Prop) (e : Env) (S : Sto) (L : GHeap) : Prop :=
  match ops.toList[i]? with
  | none => False
  | some o => gK P hp nt ops o e S L K

def opsK (P : Program) (hp : Nat → Bool) (nt : Nat) (ops : Array Oper) (K : Env → Sto → GHeap → Prop) : List Nat → Env → Sto → GHeap → Prop
  | [], e, S, L => K e S L
  | i :: is, e, S, L => atK P hp nt ops i (fun e S L => opsK P hp nt ops K is e S L) e S L

def locLoad (ops : Array Oper) (listed : Array Bool) (e : Env) (i : Nat) : Bool :=
  match ops.toList[i]? with
  | some o => match o.op with
    | .load _ p => (match e.ev p with
      | .loc _ _ => true
      | _ => false) && (List.range ops.size).all fun j => j == i || listed.getD j true || match ops.toList[j]? with
        | some oj => oj.after.any (fun e => Region.binds .any e && e.on == i) || !isStore oj.op
        | none => true
    | _ => false
  | none => false

def pureAt (P : Program) (ops : Array Oper) (i : Nat) : Bool := match ops.toList[i]? with
  | some o => pureB P o.op
  | none => false

def inB (d : Nat) : List Nat → Bool
  | [] => false
  | x :: l => match Nat.beq d x with
    | true => true
    | false => inB d l

def guardSlot (ops : Array Oper) (i : Nat) : Option Nat := match ops.toList[i]? with
  | some o => match o.guard with
    | some (j, _) => match ops.toList[j]? with
      | some g => g.dst
      | none => none
    | none => none
  | none => none

def skipAt (ops : Array Oper) (listed : Array Bool) (G : List Nat) (e : Env) (i : Nat) : Bool := match ops.toList[i]? with
  | some o => match o.guard with
    | some (j, want) => match ops.toList[j]? with
      | some g => match g.dst with
        | some d => (match e d with
          | .v (.bool b) => match inB d G with
            | true => b != want
            | false => false
          | .v (.tuple _) => true
          | _ => false) && !isStore o.op && (match o.op with
            | .select _ _ => false
            | _ => true) && (!isLoad o.op || (List.range ops.size).all fun j => j == i || listed.getD j true || match ops.toList[j]? with
              | some oj => oj.after.any (fun e => Region.binds .any e && e.on == i) || !isStore oj.op
              | none => true)
        | none => false
      | none => false
    | none => false
  | none => false

def quietB (P : Program) (op : Op) : Bool := pureB P op || isLoad op

def isNew : Op → Bool
  | .alloc _ => true
  | .box .. => true
  | .buildSlice .. => true
  | _ => false

def quietQ (P : Program) (q : Bool) (op : Op) : Bool := quietB P op || (q && isNew op)

theorem quietQ_true {P : Program} {q : Bool} {op : Op} (h : quietQ P q op = true) : quietQ P true op = true := by
  unfold quietQ at h ⊢
  cases q <;> simp_all

def behindL (ops : Array Oper) : List Nat → List Nat → List Nat
  | [], acc => acc
  | j :: js, acc => match ops.toList[j]? with
    | some oj => match oj.after.any fun e => Region.binds .any e && inB e.on acc with
      | true => behindL ops js (j :: acc)
      | false => behindL ops js acc
    | none => behindL ops js acc

def isAlloc : Op → Bool
  | .alloc _ => true
  | _ => false

def allocOnly (ops : Array Oper) (d : Nat) : Bool := ops.toList.all fun o => match o.dst with
  | some d' => !Nat.beq d' d || (isAlloc o.op && o.guard.isNone)
  | none => true

def locStore (hp : Nat → Bool) (ops : Array Oper) (o : Oper) : Bool := match o.op with
  | .store _ (.tmp d) _ => !hp d && allocOnly ops d && o.after.any fun e => Region.binds .any e && match ops.toList[e.on]? with
    | some a => match a.dst with
      | some d' => Nat.beq d' d
      | none => false
    | none => false
  | _ => false

def softB (hp : Nat → Bool) (ops : Array Oper) (o : Oper) : Bool := locStore hp ops o || (hp 3000003 && isCA o.op)

def ghLoad (P : Program) (hp : Nat → Bool) (ops : Array Oper) (listed : Array Bool) (e : Env) (i : Nat) : Bool :=
  match ops.toList[i]? with
  | some o => match o.op with
    | .load _ p => (match e.ev p with
      | .v _ => true
      | _ => false) && (List.range ops.size).all fun j => j == i || listed.getD j true || match ops.toList[j]? with
        | some oj => oj.after.any (fun e => Region.binds .any e && e.on == i) || ((quietQ P (hp 3000000) oj.op || (hp 3000001 && inB j (behindL ops (List.range ops.size) [i]))) || ((hp 3000002 && locStore hp ops oj) || (hp 3000003 && isCA oj.op)))
        | none => true
    | _ => false
  | none => false

def takeable (P : Program) (hp : Nat → Bool) (ops : Array Oper) (listed : Array Bool) (G : List Nat) (e : Env) (i : Nat) : Bool :=
  (pureAt P ops i || locLoad ops listed e i || skipAt ops listed G e i || ghLoad P hp ops listed e i) && Region.free .any ops listed i

def splitK (ops : Array Oper) : List Nat → List Nat → Env → (List Nat → Env → Prop) → Prop
  | [], G, e, k => k G e
  | i :: is, G, e, k => match guardSlot ops i with
    | none => splitK ops is G e k
    | some d => match inB d G with
      | true => splitK ops is G e k
      | false => match e d with
        | .v (.bool b) => bc b (splitK ops is (d :: G) (e.put d (.v (.bool true))) k) (splitK ops is (d :: G) (e.put d (.v (.bool false))) k)
        | _ => splitK ops is G e k

def allOf (X : Nat → Prop) : List Nat → Prop
  | [] => True
  | [i] => X i
  | i :: is => X i ∧ allOf X is

def anyK (P : Program) (hp : Nat → Bool) (nt : Nat) (ops : Array Oper) (K : Env → Sto → GHeap → Prop) : Nat → Array Bool → List Nat → Env → Sto → GHeap → Prop
  | 0, listed, _, e, S, L => match Region.ready .any ops listed with
    | [] => K e S L
    | _ :: _ => False
  | n + 1, listed, G, e, S, L => match Region.ready .any ops listed with
    | [] => K e S L
    | r :: rs => splitK ops (r :: rs) G e fun G e => match (r :: rs).find? (takeable P hp ops listed G e) with
      | some i => atK P hp nt ops i (fun e S L => anyK P hp nt ops K n (listed.setIfInBounds i true) G e S L) e S L
      | none => allOf (fun i => atK P hp nt ops i (fun e S L => anyK P hp nt ops K n (listed.setIfInBounds i true) G e S L) e S L) (r :: rs)

/-! ### soundness of one operation -/
section
variable {P : Program} {B0 B : Boxes} {e : Env} {S : Sto} {L : GHeap} {bs : Nat → Nat} {a : Act} {w : World} {nt : Nat} {hp : Nat → Bool} {ops : Array Oper}

theorem put_self (d : Nat) : e.put d (e d) = e := by
  funext t
  unfold Env.put
  cases h : Nat.beq t d with
  | true => have := Nat.eq_of_beq_eq_true h; subst this; rfl
  | false => rfl

theorem split_sound : ∀ {is G : List Nat} {e : Env} {k : List Nat → Env → Prop}, splitK ops is G e k → ∃ G', k G' e
  | [], G, e, k, h => ⟨G, h⟩
  | i :: is, G, e, k, h => by
    unfold splitK at h
    cases hg : guardSlot ops i with
    | none => rw [hg] at h; exact split_sound h
    | some dd =>
      rw [hg] at h
      simp only at h
      cases hin : inB dd G with
      | true => rw [hin] at h; exact split_sound h
      | false =>
        rw [hin] at h
        simp only at h
        have hput := put_self (e := e) dd
        split at h
        · rename_i b he
          rw [he] at hput
          cases b with
          | true =>
            have h : splitK ops is (dd :: G) (e.put dd (.v (.bool true))) k := h
            rw [hput] at h; exact split_sound h
          | false =>
            have h : splitK ops is (dd :: G) (e.put dd (.v (.bool false))) k := h
            rw [hput] at h; exact split_sound h
        · exact split_sound h

theorem Rel.put {d : Nat} {x : AV} {v : Value} (hr : Rel B0 e S L bs B a w) (hx : AVr bs x v) (hw : wfAV S x) (hd : d < a.tmps.size) : Rel B0 (e.put d x) S L bs B (a.put (some d) v) w := by
  refine { hr with tmps := fun t => ?_, wf := fun t => ?_, defers := hr.defers }
  · unfold Env.put
    by_cases h : t = d
    · subst h
      simp only [Nat.beq_refl, cond_true, Act.put]
      simpa [hd] using hx
    · have hb : Nat.beq t d = false := by
        cases hb : Nat.beq t d with
        | false => rfl
        | true => exact absurd (Nat.eq_of_beq_eq_true hb) h
      rw [hb]
      simp only [cond_false, Act.put]
      have := hr.tmps t
      simpa [Array.getElem?_setIfInBounds_ne (Ne.symm h)] using this
  · unfold Env.put
    cases Nat.beq t d
    · exact hr.wf t
    · exact hw

theorem Rel.putD {d : Option Nat} {x : AV} {v : Value} {k : Env → Prop} (hr : Rel B0 e S L bs B a w) (hx : AVr bs x v) (hw : wfAV S x) (hsz : a.tmps.size = nt) (h : putD nt d x e k) :
    ∃ e', k e' ∧ Rel B0 e' S L bs B (a.put d v) w := by
  unfold GH.putD at h
  cases d with
  | none => exact ⟨e, h, hr⟩
  | some d =>
    simp only at h
    cases hb : Nat.blt d nt with
    | true =>
      rw [hb] at h
      have hlt : d < nt := Nat.le_of_ble_eq_true hb
      exact ⟨_, h, hr.put hx hw (by omega)⟩
    | false => rw [hb] at h; exact h.elim

theorem put_size (a : Act) (d : Option Nat) (v : Value) : (a.put d v).tmps.size = a.tmps.size := by cases d <;> simp [Act.put]

theorem gK_cases {o : Oper} {K : Env → Sto → GHeap → Prop} (h : gK P hp nt ops o e S L K) (hr : Rel B0 e S L bs B a w) :
    (Region.wanted o (yielded ops a.tmps) = true ∧ opK P hp nt o e S L K) ∨ (Region.wanted o (yielded ops a.tmps) = false ∧ putD nt o.dst (.v undef) e fun e => K e S L) := by
  unfold gK at h
  cases hg : o.guard with
  | none =>
    rw [hg] at h
    exact .inl ⟨by simp [Region.wanted, hg], h⟩
  | some jw =>
    obtain ⟨j, want⟩ := jw
    rw [hg] at h
    simp only at h
    cases hj : ops.toList[j]? with
    | none => rw [hj] at h; exact h.elim
    | some g =>
      rw [hj] at h
      simp only at h
      cases hd : g.dst with
      | none => rw [hd] at h; exact h.elim
      | some d =>
        rw [hd] at h
        simp only at h
        have ht := hr.tmps d
        have hself := put_self (e := e) d
        split at h
        · rename_i b hb
          rw [hb] at ht hself
          simp only [AVr] at ht
          have hjo : ops[j]? = some g := by rw [← Array.getElem?_toList]; exact hj
          have hy : yielded ops a.tmps j = some b := by
            unfold yielded
            simp only [hjo, Option.bind_some, hd]
            have : a.tmps[d]? = some (.bool b) := by
              cases hq : a.tmps[d]? with
              | none => rw [Array.getD_eq_getD_getElem?, hq] at ht; cases ht
              | some u => rw [Array.getD_eq_getD_getElem?, hq] at ht; simpa using ht
            simp [this]
          have hw : Region.wanted o (yielded ops a.tmps) = (b == want) := by simp [Region.wanted, hg, hy]
          rw [hw]
          cases b <;> cases want <;> simp only [bc, gsel] at h <;> rw [hself] at h
          · exact .inl ⟨rfl, h⟩
          · exact .inr ⟨rfl, h⟩
          · exact .inr ⟨rfl, h⟩
          · exact .inl ⟨rfl, h⟩
        · rename_i vs hb
          rw [hb] at ht
          simp only [AVr] at ht
          have hjo : ops[j]? = some g := by rw [← Array.getElem?_toList]; exact hj
          have hy : yielded ops a.tmps j = none := by
            unfold yielded
            simp only [hjo, Option.bind_some, hd]
            cases hq : a.tmps[d]? with
            | none => rfl
            | some u => rw [Array.getD_eq_getD_getElem?, hq] at ht; simp only [Option.getD_some] at ht; subst ht; rfl
          exact .inr ⟨by simp [Region.wanted, hg, hy], h⟩
        · exact h.elim

theorem skip_wanted {o g : Oper} {j d : Nat} {want : Bool} (hg : o.guard = some (j, want)) (hj : ops.toList[j]? = some g) (hd : g.dst = some d) (hr : Rel B0 e S L bs B a w)
    (h : (∃ b, e d = .v (.bool b) ∧ (b != want) = true) ∨ ∃ vs, e d = .v (.tuple vs)) : Region.wanted o (yielded ops a.tmps) = false := by
  have ht := hr.tmps d
  have hjo : ops[j]? = some g := by rw [← Array.getElem?_toList]; exact hj
  rcases h with ⟨b, hb, hne⟩ | ⟨vs, hb⟩
  · rw [hb] at ht
    simp only [AVr] at ht
    have hy : yielded ops a.tmps j = some b := by
      unfold yielded
      simp only [hjo, Option.bind_some, hd]
      have : a.tmps[d]? = some (.bool b) := by
        cases hq : a.tmps[d]? with
        | none => rw [Array.getD_eq_getD_getElem?, hq] at ht; cases ht
        | some u => rw [Array.getD_eq_getD_getElem?, hq] at ht; simpa using ht
      simp [this]
    have hw : Region.wanted o (yielded ops a.tmps) = (b == want) := by simp [Region.wanted, hg, hy]
    rw [hw]
    cases b <;> cases want <;> first | rfl | cases hne
  · rw [hb] at ht
    simp only [AVr] at ht
    have hy : yielded ops a.tmps j = none := by
      unfold yielded
      simp only [hjo, Option.bind_some, hd]
      cases hq : a.tmps[d]? with
      | none => rfl
      | some u => rw [Array.getD_eq_getD_getElem?, hq] at ht; simp only [Option.getD_some] at ht; subst ht; rfl
    simp [Region.wanted, hg, hy]

def Go1 (B0 : Boxes) (K : Env → Sto → GHeap → Prop) (a : Act) (w : World) : Prop := ∃ e S L bs B, K e S L ∧ Rel B0 e S L bs B a w

def Go2 (B0 : Boxes) (S : Sto) (bs : Nat → Nat) (L : GHeap) (st qt : Bool) (K : Env → Sto → GHeap → Prop) (a : Act) (w : World) : Prop :=
  ∃ e S' L' bs' B, K e S' L' ∧ Rel B0 e S' L' bs' B a w ∧ (st = false → ∀ k cs, S k = some cs → S' k = some cs ∧ bs' k = bs k) ∧ (qt = true → ∀ x v, L.mem x = some v → L'.mem x = some v)

theorem exSc_and {s : Sc} {K K' : Value → Prop} {Q : Prop} (hQ : Q) (h : exSc s fun v => K v ∧ K' v) : exSc s fun v => K v ∧ K' v ∧ Q := by
  cases s <;> first
    | (obtain ⟨x, h⟩ := h; exact ⟨x, h.1, h.2, hQ⟩)
    | (obtain ⟨x, y, h⟩ := h; exact ⟨x, y, h.1, h.2, hQ⟩)

theorem exCells_and {Q : Prop} (hQ : Q) : ∀ {l : List Sc} {K K' : List Value → Prop}, exCells l (fun v => K v ∧ K' v) → exCells l fun v => K v ∧ K' v ∧ Q
  | [], _, _, h => ⟨h.1, h.2, hQ⟩
  | s :: l, K, K', h => by
    have key : ∀ {s : Sc} {X Y : Value → Prop}, (∀ v, X v → Y v) → exSc s X → exSc s Y := by
      intro s X Y hxy h
      cases s <;> first
        | (obtain ⟨x, h⟩ := h; exact ⟨x, hxy _ h⟩)
        | (obtain ⟨x, y, h⟩ := h; exact ⟨x, y, hxy _ h⟩)
    exact key (fun v hv => exCells_and hQ (K := fun vs => K (v :: vs)) (K' := fun vs => K' (v :: vs)) hv) h

theorem loadK_same {t : TypeId} {x : AV} {k : AV → Prop} {Q : Prop} (hQ : Q) (h : loadK P t x S L k) : loadK P t x S L fun x => k x ∧ Q := by
  unfold loadK at h ⊢
  split at h
  · split at h
    · split at h
      · exact h
      · split at h
        · split at h
          · exact ⟨h, hQ⟩
          · exact h
        · obtain ⟨u, hu, hk⟩ := optK_some h
          rw [hu]; exact ⟨hk, hQ⟩
    · obtain ⟨x, rfl, h⟩ := ptrK_some h
      simp only [ptrK] at h ⊢
      split at h
      · split at h
        · exact exCells_and hQ h
        · exact h
      · exact exSc_and hQ h
    · exact h
  · exact h

theorem optK_mono' {α : Type} {o : Option α} {k k' : α → Prop} (h : optK o k) (hk : ∀ x, k x → k' x) : optK o k' := by
  obtain ⟨x, rfl, h⟩ := optK_some h
  exact hk x h

theorem newK_same {hp : Nat → Bool} {d : Option Nat} {cs : List Value} {kb kl : Nat → AV} {k : AV → Sto → GHeap → Prop} (h : newK hp d cs S L kb kl k) :
    newK hp d cs S L kb kl fun x S' L' => k x S' L' ∧ ∀ x v, L.mem x = some v → L'.mem x = some v := by
  unfold newK at h ⊢
  split at h
  · exact h
  · split at h
    · intro b hu
      refine ⟨h b hu, fun x v hm => ?_⟩
      have : x.block ≠ b := fun he => by rw [(hu.1 x he).1] at hm; cases hm
      unfold GHeap.alloc
      simp only
      rw [if_neg this]; exact hm
    · split at h
      · exact ⟨h, fun _ _ hm => hm⟩
      · split at h
        · exact ⟨h, fun _ _ hm => hm⟩
        · exact h

theorem op_sound {o : Oper} {K : Env → Sto → GHeap → Prop} (h : opK P hp nt o e S L K) (hr : Rel B0 e S L bs B a w) (hsz : a.tmps.size = nt) :
    uponR P (fun v w' => Go2 B0 S bs L (isStore o.op) (quietQ P true o.op) K (a.put o.dst v) w') ((execOp a.eval o).run P w) := by
  unfold opK at h
  split at h
  · obtain ⟨x, h1, h2, h4, h3⟩ := pure_sound P h
    obtain ⟨v, hv, hrun⟩ := h3 bs a.eval hr.ev
    obtain ⟨e', hk, hr'⟩ := hr.putD (v := v) hv (h4 S hr.wfev) hsz h1
    rw [hrun w]
    exact ⟨_, _, _, _, _, hk, hr', (fun _ k cs hk => ⟨hk, rfl⟩), fun _ _ _ hm => hm⟩
  · rename_i hnp
    by_cases hld : isLoad o.op = true
    · have h' : memK P hp e.ev o S L fun x S' L' => (putD nt o.dst x e fun e => K e S' L') ∧ L' = L := by
        unfold memK at h ⊢
        cases hop : o.op <;> rw [hop] at hld <;> first | (cases hld; done) | skip
        rw [hop] at h
        exact loadK_same rfl h
      refine (mem_sound h' hr).mono ?_
      rintro v w' ⟨x, S', L', bs', B', ⟨hk, he⟩, hv, hw, hr', hext⟩
      obtain ⟨e', hk, hr''⟩ := hr'.putD hv hw hsz hk
      exact ⟨_, _, _, _, _, hk, hr'', hext, fun _ _ _ hm => by rw [he]; exact hm⟩
    · by_cases hnw : isNew o.op = true
      · have h' : memK P hp e.ev o S L fun x S' L' => (putD nt o.dst x e fun e => K e S' L') ∧ ∀ x v, L.mem x = some v → L'.mem x = some v := by
          unfold memK at h ⊢
          cases hop : o.op <;> rw [hop] at hnw <;> first | (cases hnw; done) | skip
          · rw [hop] at h
            simp only at h ⊢
            split at h
            · exact optK_mono' h fun z h => newK_same h
            · exact h.elim
          · rw [hop] at h
            simp only at h ⊢
            unfold vK at h ⊢
            split at h
            · exact newK_same h
            · exact h.elim
          · rw [hop] at h
            exact optK_mono' h fun z h => newK_same h
        refine (mem_sound h' hr).mono ?_
        rintro v w' ⟨x, S', L', bs', B', ⟨hk, he⟩, hv, hw, hr', hext⟩
        obtain ⟨e', hk, hr''⟩ := hr'.putD hv hw hsz hk
        exact ⟨_, _, _, _, _, hk, hr'', hext, fun _ => he⟩
      · refine (mem_sound h hr).mono ?_
        rintro v w' ⟨x, S', L', bs', B', hk, hv, hw, hr', hext⟩
        obtain ⟨e', hk, hr''⟩ := hr'.putD hv hw hsz hk
        refine ⟨_, _, _, _, _, hk, hr'', hext, fun hq => ?_⟩
        unfold quietQ quietB at hq
        rw [hnp] at hq
        simp only [Bool.false_or, Bool.true_and, Bool.or_eq_true] at hq
        exact absurd hq fun hq => hq.elim hld hnw

theorem at_sound2 {i : Nat} {K : Env → Sto → GHeap → Prop} (h : atK P hp nt ops i K e S L) (hr : Rel B0 e S L bs B a w) (hsz : a.tmps.size = nt) :
    ∃ o, ops[i]? = some o ∧ ((Region.wanted o (yielded ops a.tmps) = true ∧ uponR P (fun v w' => Go2 B0 S bs L (isStore o.op) (quietQ P true o.op) K (a.put o.dst v) w') ((execOp a.eval o).run P w)) ∨
      (Region.wanted o (yielded ops a.tmps) = false ∧ Go2 B0 S bs L (isStore o.op) (quietQ P true o.op) K (a.put o.dst undef) w)) := by
  unfold atK at h
  cases ho : ops.toList[i]? with
  | none => rw [ho] at h; exact h.elim
  | some o =>
    rw [ho] at h
    have ho' : ops[i]? = some o := by rw [← Array.getElem?_toList]; exact ho
    refine ⟨o, ho', ?_⟩
    rcases gK_cases h hr with ⟨hw, h⟩ | ⟨hw, h⟩
    · exact .inl ⟨hw, op_sound h hr hsz⟩
    · obtain ⟨e', hk, hr'⟩ := hr.putD (x := .v undef) (v := undef) rfl trivial hsz h
      exact .inr ⟨hw, _, _, _, _, _, hk, hr', (fun _ k cs hk => ⟨hk, rfl⟩), fun _ _ _ hm => hm⟩

theorem at_sound {i : Nat} {K : Env → Sto → GHeap → Prop} {Q : Exit → Act → World → Prop} (h : atK P hp nt ops i K e S L) (hr : Rel B0 e S L bs B a w) (hsz : a.tmps.size = nt) :
    wpOp P ops Q i (fun a' w' => a'.tmps.size = nt ∧ Go1 B0 K a' w') a w := by
  obtain ⟨o, ho', h⟩ := at_sound2 h hr hsz
  unfold wpOp
  simp only [ho']
  rcases h with ⟨hw, h⟩ | ⟨hw, h⟩
  · rw [if_pos hw]
    refine .inl (h.upon a ?_)
    rintro v w' ⟨e', S', L', bs', B', hk, hr', _⟩
    exact ⟨by rw [put_size]; exact hsz, _, _, _, _, _, hk, hr'⟩
  · rw [if_neg (by simp [hw])]
    obtain ⟨e', S', L', bs', B', hk, hr', _⟩ := h
    exact ⟨by rw [put_size]; exact hsz, _, _, _, _, _, hk, hr'⟩

theorem ops_sound {K : Env → Sto → GHeap → Prop} {Q : Exit → Act → World → Prop} (hQ : ∀ a w, a.tmps.size = nt → Go1 B0 K a w → Q .normal a w) : ∀ (is : List Nat) (e : Env) (S : Sto) (L : GHeap) (bs : Nat → Nat) (B : Boxes) (a : Act) (w : World),
    opsK P hp nt ops K is e S L → Rel B0 e S L bs B a w → a.tmps.size = nt → wpOps P ops Q is a w
  | [], e, S, L, bs, B, a, w, h, hr, hsz => hQ a w hsz ⟨_, _, _, _, _, h, hr⟩
  | i :: is, e, S, L, bs, B, a, w, h, hr, hsz => by
    rw [wpOps_cons]
    refine wpOp_mono (Q := Q) ?_ (at_sound h hr hsz)
    rintro a' w' ⟨hsz', e', S', L', bs', B', h', hr'⟩
    exact ops_sound hQ is e' S' L' bs' B' a' w' h' hr' hsz'

end
end Go.Proofs.YtcnkbjipogngaaaDoor.GH

namespace Go.Proofs.YtcnkbjipogngaaaDoor.GH
open Go

section
variable {P : Program} {e : Env} {S : Sto} {L : GHeap} {nt : Nat} {hp : Nat → Bool} {ops : Array Oper}

theorem bc_mono {b : Bool} {X Y X' Y' : Prop} (h : bc b X Y) (h1 : X → X') (h2 : Y → Y') : bc b X' Y' := by
  cases b
  · exact h2 h
  · exact h1 h

theorem gsel_mono {b : Bool} {X Y X' Y' : Prop} (h : gsel b X Y) (h1 : X → X') (h2 : Y → Y') : gsel b X' Y' := by
  cases b
  · exact h2 h
  · exact h1 h

theorem vK_mono {x : AV} {k k' : Value → Prop} (h : vK x k) (hk : ∀ v, k v → k' v) : vK x k' := by
  cases x <;> first | exact hk _ h | exact h

theorem optK_mono {α : Type} {x : Option α} {k k' : α → Prop} (h : optK x k) (hk : ∀ v, k v → k' v) : optK x k' := by
  cases x with
  | none => exact h
  | some x => exact hk _ h

theorem ptrK_mono {x : Option Addr} {k k' : Addr → Prop} (h : ptrK x k) (hk : ∀ v, k v → k' v) : ptrK x k' := by
  cases x with
  | none => exact h
  | some x => exact hk _ h

theorem exSc_mono {s : Sc} {k k' : Value → Prop} (h : exSc s k) (hk : ∀ v, k v → k' v) : exSc s k' := by
  cases s <;> first
    | (obtain ⟨x, h⟩ := h; exact ⟨x, hk _ h⟩)
    | (obtain ⟨x, y, h⟩ := h; exact ⟨x, y, hk _ h⟩)

theorem exCells_mono : ∀ {l : List Sc} {k k' : List Value → Prop}, exCells l k → (∀ v, k v → k' v) → exCells l k'
  | [], _, _, h, hk => hk _ h
  | _ :: _, _, _, h, hk => exSc_mono h fun _ h => exCells_mono h fun _ => hk _

theorem exVal_mono {t : TypeId} {k k' : Value → Prop} (h : exVal P t k) (hk : ∀ v, k v → k' v) : exVal P t k' := by
  unfold exVal at h ⊢
  split at h
  · exact exCells_mono h fun _ => hk _
  · exact exSc_mono h hk

theorem exTup_mono : ∀ {ts : List TypeId} {k k' : List Value → Prop}, exTup P ts k → (∀ v, k v → k' v) → exTup P ts k'
  | [], _, _, h, hk => hk _ h
  | _ :: _, _, _, h, hk => exVal_mono h fun _ h => exTup_mono h fun _ => hk _

theorem exRes_mono {t : TypeId} {k k' : Value → Prop} (h : exRes P t k) (hk : ∀ v, k v → k' v) : exRes P t k' := by
  unfold exRes at h ⊢
  split at h
  · exact exTup_mono h fun _ => hk _
  · exact exVal_mono h hk

theorem newK_mono {d : Option Nat} {cs : List Value} {kb kl : Nat → AV} {k k' : AV → Sto → GHeap → Prop} (h : newK hp d cs S L kb kl k) (hk : ∀ x S L, k x S L → k' x S L) : newK hp d cs S L kb kl k' := by
  unfold newK at h ⊢
  cases d with
  | none => exact h
  | some d =>
    simp only at h ⊢
    split at h
    · exact fun b hb => hk _ _ _ (h b hb)
    · split at h
      · exact hk _ _ _ h
      · split at h
        · exact hk _ _ _ h
        · exact h

theorem copyK_mono {t : TypeId} {x y : AV} {k k' : Nat → GHeap → Prop} (h : copyK P t x y L k) (hk : ∀ s L, k s L → k' s L) : copyK P t x y L k' := by
  unfold copyK at h ⊢
  split at h
  · split at h
    · obtain ⟨cs, h1, h⟩ := h
      exact ⟨cs, h1, h.imp (fun ⟨h1, h⟩ => ⟨h1, hk _ _ h⟩) fun ⟨a, h1, h2, h⟩ => ⟨a, h1, h2, hk _ _ h⟩⟩
    · exact h
  · exact h

theorem clearK_mono {t : TypeId} {x : AV} {k k' : GHeap → Prop} (h : clearK P t x L k) (hk : ∀ L, k L → k' L) : clearK P t x L k' := by
  unfold clearK at h ⊢
  repeat' (split at h <;> try exact h.elim)
  exact h.imp (fun ⟨h1, h⟩ => ⟨h1, hk _ h⟩) fun ⟨a, h1, h2, h⟩ => ⟨a, h1, h2, hk _ h⟩

theorem loadK_mono {t : TypeId} {x : AV} {k k' : AV → Prop} (h : loadK P t x S L k) (hk : ∀ x, k x → k' x) : loadK P t x S L k' := by
  unfold loadK at h ⊢
  split at h
  · split at h
    · split at h
      · exact h
      · split at h
        · split at h
          · exact hk _ h
          · exact h
        · exact optK_mono h fun _ => hk _
    · refine ptrK_mono h fun a h => ?_
      split at h
      · split at h
        · exact exCells_mono h fun _ h => ⟨h.1, hk _ h.2⟩
        · exact h
      · exact exSc_mono h fun _ h => ⟨h.1, hk _ h.2⟩
    · exact h
  · exact h

theorem storeK_mono {t : TypeId} {x : AV} {v : Value} {k k' : Sto → GHeap → Prop} (h : storeK P t x v S L k) (hk : ∀ S L, k S L → k' S L) : storeK P t x v S L k' := by
  unfold storeK at h ⊢
  split at h
  · exact h
  · split at h
    · exact h
    · split at h
      · split at h
        · exact h
        · split at h
          · exact hk _ _ h
          · exact h
      · exact ptrK_mono h fun a h => ⟨h.1, hk _ _ h.2⟩
      · exact h

theorem makeSliceK_mono {t : TypeId} {x y : AV} {k k' : Sl → GHeap → Prop} (h : makeSliceK P t x y L k) (hk : ∀ s L, k s L → k' s L) : makeSliceK P t x y L k' := by
  unfold makeSliceK at h ⊢
  split at h
  · split at h
    · split at h
      · split at h
        · exact ⟨h.1, fun b hb => hk _ _ (h.2 b hb)⟩
        · exact h
      · exact h
    · exact h
  · exact h

theorem appendK_mono {size bytes m : Nat} {s : Sl} {new : List Value} {k k' : Sl → GHeap → Prop} (h : appendK size bytes L s m new k) (hk : ∀ s L, k s L → k' s L) : appendK size bytes L s m new k' := by
  obtain ⟨h1, h2, h3⟩ := h
  refine ⟨h1, fun hc => ?_, fun hc => ?_⟩
  · rcases h2 hc with ⟨hm, h⟩ | ⟨a, ha, hm, h⟩
    · exact .inl ⟨hm, hk _ _ h⟩
    · exact .inr ⟨a, ha, hm, hk _ _ h⟩
  · obtain ⟨old, ho, h⟩ := h3 hc
    exact ⟨old, ho, fun b c' hb hc' => hk _ _ (h b c' hb hc')⟩

theorem appK_mono {t t' : TypeId} {x y : AV} {k k' : Sl → GHeap → Prop} (h : appK P t t' x y S L k) (hk : ∀ s L, k s L → k' s L) : appK P t t' x y S L k' := by
  unfold appK at h ⊢
  split at h
  · split at h
    · split at h
      · split at h
        · exact h
        · split at h
          · exact h
          · split at h
            · exact h
            · split at h
              · exact ⟨h.1, appendK_mono h.2 hk⟩
              · exact h
      · split at h
        · exact h
        · split at h
          · exact h
          · split at h
            · split at h
              · exact h
              · split at h
                · exact appendK_mono h hk
                · exact h
            · obtain ⟨cs, h1, h⟩ := h
              exact ⟨cs, h1, appendK_mono h hk⟩
            · exact h
    · exact h
  · exact h

theorem lookK_mono {t : TypeId} {m i : Value} {c : Bool} {k k' : Value → Prop} (h : lookK P t m i c L k) (hk : ∀ v, k v → k' v) : lookK P t m i c L k' := by
  unfold lookK at h ⊢
  split at h
  · split at h
    · exact exVal_mono h fun v ⟨ok, h1, h2⟩ => ⟨ok, h1, hk _ h2⟩
    · exact exVal_mono h fun v ⟨ok, h1, h2⟩ => ⟨ok, h1, hk _ h2⟩
  · exact h

theorem updK_mono {t : TypeId} {m i v : Value} {k k' : GHeap → Prop} (h : updK P t m i v L k) (hk : ∀ L, k L → k' L) : updK P t m i v L k' := by
  unfold updK at h ⊢
  split at h
  · obtain ⟨key, e, r, o, f, h1, h2, h3, h4, h5, h6, h7, h8⟩ := h
    exact ⟨key, e, r, o, f, h1, h2, h3, h4, h5, h6, h7, fun o' ho => hk _ (h8 o' ho)⟩
  · exact h

theorem makeMapK_mono {t : TypeId} {r : Option AV} {k k' : Nat → GHeap → Prop} (h : makeMapK P t r L k) (hk : ∀ b L, k b L → k' b L) : makeMapK P t r L k' := by
  unfold makeMapK at h ⊢
  split at h
  · exact fun b hb hn => hk _ _ (h b hb hn)
  · split at h
    · exact fun b hb hn => hk _ _ (h b hb hn)
    · exact h
  · exact h

theorem memK_mono {ev : Operand → AV} {o : Oper} {k k' : AV → Sto → GHeap → Prop} (h : memK P hp ev o S L k) (hk : ∀ x S L, k x S L → k' x S L) : memK P hp ev o S L k' := by
  unfold memK at h ⊢
  split at h
  · split at h
    · exact optK_mono h fun _ h => newK_mono h hk
    · exact h
  · exact vK_mono h fun _ h => newK_mono h hk
  · exact optK_mono h fun _ h => newK_mono h hk
  · exact loadK_mono h fun _ => hk _ _ _
  · exact vK_mono h fun _ h => storeK_mono h fun _ _ => hk _ _ _
  · exact makeSliceK_mono h fun _ _ => hk _ _ _
  · split at h
    · exact appK_mono h fun _ _ h => keepK_mono h (hk _ _ _)
    · exact h
  · split at h
    · exact copyK_mono h fun _ _ => hk _ _ _
    · exact h
  · split at h
    · exact clearK_mono h fun _ => hk _ _ _
    · exact h
  · unfold isFnV at h ⊢
    split at h
    · exact optK_mono h fun _ h => h.mono fun _ _ h => exRes_mono h fun _ h => ⟨h.1, keepK_mono h.2 (hk _ _ _)⟩
    · exact h
  · exact makeMapK_mono h fun _ _ => hk _ _ _
  · exact vK_mono h fun _ h => vK_mono h fun _ h => lookK_mono h fun _ => hk _ _ _
  · exact vK_mono h fun _ h => vK_mono h fun _ h => vK_mono h fun _ h => updK_mono h fun _ => hk _ _ _
  · exact vK_mono h fun _ h => vK_mono h fun _ h => vK_mono h fun _ h => updK_mono h fun _ => hk _ _ _
  · exact h

theorem putD_mono {d : Option Nat} {x : AV} {k k' : Env → Prop} (h : putD nt d x e k) (hk : ∀ e, k e → k' e) : putD nt d x e k' := by
  unfold putD at h ⊢
  cases d with
  | none => exact hk _ h
  | some d =>
    simp only at h ⊢
    split at h
    · exact hk _ h
    · exact h

theorem opK_mono {o : Oper} {k k' : Env → Sto → GHeap → Prop} (h : opK P hp nt o e S L k) (hk : ∀ e S L, k e S L → k' e S L) : opK P hp nt o e S L k' := by
  unfold opK at h ⊢
  split at h
  · obtain ⟨u, hu, h1, _⟩ := pure_sound P h
    exact h1 _ (putD_mono hu fun _ => hk _ _ _)
  · exact memK_mono h fun _ _ _ h => putD_mono h fun _ => hk _ _ _

theorem gK_mono {o : Oper} {k k' : Env → Sto → GHeap → Prop} (h : gK P hp nt ops o e S L k) (hk : ∀ e S L, k e S L → k' e S L) : gK P hp nt ops o e S L k' := by
  unfold gK at h ⊢
  split at h
  · exact opK_mono h hk
  · split at h
    · exact h
    · split at h
      · exact h
      · split at h
        · exact bc_mono h (fun h => gsel_mono h (fun h => opK_mono h hk) fun h => putD_mono h fun _ => hk _ _ _) fun h => gsel_mono h (fun h => putD_mono h fun _ => hk _ _ _) fun h => opK_mono h hk
        · exact putD_mono h fun _ => hk _ _ _
        · exact h

theorem atK_mono {i : Nat} {k k' : Env → Sto → GHeap → Prop} (h : atK P hp nt ops i k e S L) (hk : ∀ e S L, k e S L → k' e S L) : atK P hp nt ops i k' e S L := by
  unfold atK at h ⊢
  split at h
  · exact h
  · exact gK_mono h hk

/-! ### what an operation leaves -/
structure Leaves (hp : Nat → Bool) (o : Oper) (e : Env) (L : GHeap) (e' : Env) (L' : GHeap) : Prop where
  other : ∀ d, o.dst ≠ some d → e' d = e d
  box : isAlloc o.op = true → o.guard = none → ∀ d, o.dst = some d → hp d = false → ∃ b off, e' d = .loc b off
  store : ∀ t p x b off, o.op = .store t p x → e.ev p = .loc b off → L' = L
  keep : hp 3000003 = true → isCA o.op = true → Keep L L'

theorem putD_env {d : Option Nat} {x : AV} {k : Env → Prop} (h : putD nt d x e k) : putD nt d x e fun e' => k e' ∧ (∀ d', d ≠ some d' → e' d' = e d') ∧ ∀ d', d = some d' → e' d' = x := by
  unfold putD at h ⊢
  cases d with
  | none => exact ⟨h, fun _ _ => rfl, fun _ h => by cases h⟩
  | some d =>
    simp only at h ⊢
    split at h
    · refine ⟨h, fun d' hd => ?_, fun d' hd => ?_⟩
      · unfold Env.put
        cases hb : Nat.beq d' d with
        | true => exact absurd (congrArg some (Nat.eq_of_beq_eq_true hb).symm) hd
        | false => rfl
      · injection hd with hd
        subst hd
        unfold Env.put
        rw [show Nat.beq d d = true from Nat.beq_refl d]
        rfl
    · exact h

theorem memK_facts {ev : Operand → AV} {o : Oper} {k : AV → Sto → GHeap → Prop} (h : memK P hp ev o S L k) :
    memK P hp ev o S L fun x S' L' => k x S' L' ∧ (isAlloc o.op = true → ∀ d, o.dst = some d → hp d = false → ∃ b off, x = .loc b off) ∧ (∀ t p y b off, o.op = .store t p y → ev p = .loc b off → L' = L) ∧ (hp 3000003 = true → isCA o.op = true → Keep L L') := by
  by_cases ha : isAlloc o.op = true
  · unfold memK at h ⊢
    cases hop : o.op <;> rw [hop] at ha <;> first | (cases ha; done) | skip
    rw [hop] at h
    simp only at h ⊢
    split at h
    · refine optK_mono h fun z h => ?_
      unfold newK at h ⊢
      cases hd : o.dst with
      | none => rw [hd] at h; exact h
      | some d =>
        rw [hd] at h
        simp only at h ⊢
        split at h
        · rename_i hhp
          intro b hu
          exact ⟨h b hu, (fun _ d' hd' hf => by injection hd' with hd'; subst hd'; rw [hhp] at hf; cases hf), (fun _ _ _ _ _ h => by cases h), fun _ h => by cases h⟩
        · split at h
          · exact ⟨h, fun _ _ _ _ => ⟨_, _, rfl⟩, (fun _ _ _ _ _ h => by cases h), fun _ h => by cases h⟩
          · split at h
            · exact ⟨h, fun _ _ _ _ => ⟨_, _, rfl⟩, (fun _ _ _ _ _ h => by cases h), fun _ h => by cases h⟩
            · exact h
    · exact h
  · by_cases hs : isStore o.op = true
    · unfold memK at h ⊢
      cases hop : o.op <;> rw [hop] at hs <;> first | (cases hs; done) | skip
      rename_i t p x
      rw [hop] at h
      simp only at h ⊢
      refine vK_mono h fun v h => ?_
      unfold storeK at h ⊢
      split at h
      · exact h
      · split at h
        · exact h
        · split at h
          · split at h
            · exact h
            · split at h
              · exact ⟨h, fun h => (by cases h), fun _ _ _ _ _ _ _ => rfl, fun _ h => by cases h⟩
              · exact h
          · rename_i A hev
            refine ptrK_mono h fun a ⟨h1, h2⟩ => ⟨h1, h2, fun h => (by cases h), fun t' p' y b off he hl => ?_, fun _ h => by cases h⟩
            injection he with _ hp' _
            subst hp'
            rw [hl] at hev; cases hev
          · exact h
    · have nst : ∀ {L' : GHeap} t p y b off, o.op = .store t p y → ev p = .loc b off → L' = L := fun t p y b off he => by rw [he] at hs; exact absurd rfl hs
      by_cases hca : isCA o.op = true
      · unfold memK at h ⊢
        cases hop : o.op <;> rw [hop] at hca <;> first | (cases hca; done) | skip
        rename_i c
        obtain ⟨callee, args, ats⟩ := c
        have nst' : ∀ {L' : GHeap} t p y b off, (Op.call ⟨callee, args, ats⟩) = .store t p y → ev p = .loc b off → L' = L := fun t p y b off he => by cases he
        have nal : ∀ {x : AV}, isAlloc (Op.call ⟨callee, args, ats⟩) = true → ∀ d, o.dst = some d → hp d = false → ∃ b off, x = .loc b off := fun h => by cases h
        rw [hop] at h
        cases callee with
        | invoke r m => cases hca
        | builtin bb =>
          cases bb <;> first | (cases hca; done) | skip
          simp only at h ⊢
          split at h
          · exact appK_mono h fun s' L' h => by
              by_cases hh : hp 3000003 = true
              · have hkp := keepK_keep h hh
                exact keepK_mono h fun h => ⟨h, nal, nst', fun _ _ => hkp⟩
              · exact keepK_mono h fun h => ⟨h, nal, nst', fun hh' => absurd hh' hh⟩
          · exact h
        | value f =>
          simp only at h ⊢
          unfold isFnV at h ⊢
          split at h
          · refine optK_mono h fun _ h => h.mono fun _ L' h => exRes_mono h fun _ h => ⟨h.1, ?_⟩
            by_cases hh : hp 3000003 = true
            · have hkp := keepK_keep h.2 hh
              exact keepK_mono h.2 fun h => ⟨h, nal, nst', fun _ _ => hkp⟩
            · exact keepK_mono h.2 fun h => ⟨h, nal, nst', fun hh' => absurd hh' hh⟩
          · exact h
      · exact memK_mono h fun x S' L' hk => ⟨hk, fun h => absurd h ha, nst, fun _ h => absurd h hca⟩

theorem pure_not {op : Op} (h : pureB P op = true) : isAlloc op = false ∧ isStore op = false ∧ isCA op = false := by
  cases op <;> first | exact ⟨rfl, rfl, rfl⟩ | (cases h; done) | skip
  rename_i c
  obtain ⟨callee, args, ats⟩ := c
  cases callee with
  | builtin bb => cases bb <;> first | exact ⟨rfl, rfl, rfl⟩ | cases h
  | _ => cases h

theorem opK_leaves {o : Oper} {k : Env → Sto → GHeap → Prop} (h : opK P hp nt o e S L k) : opK P hp nt o e S L fun e' S' L' => k e' S' L' ∧ Leaves hp o e L e' L' := by
  unfold opK at h ⊢
  split at h
  · rename_i hpu
    obtain ⟨g1, g2, g3⟩ := pure_not hpu
    have fin : ∀ {x : AV}, (putD nt o.dst x e fun e => k e S L) → putD nt o.dst x e fun e' => k e' S L ∧ Leaves hp o e L e' L := by
      intro x h
      refine putD_mono (putD_env h) fun e' h => ⟨h.1, h.2.1, fun ha => ?_, fun t p y b off he => ?_, fun _ hc => ?_⟩
      · rw [g1] at ha; cases ha
      · rw [he] at g2; cases g2
      · rw [g3] at hc; cases hc
    obtain ⟨u, hu, h1, _⟩ := pure_sound P h
    exact h1 _ (fin hu)
  · exact memK_mono (memK_facts h) fun x S' L' ⟨h, f1, f2, f3⟩ => putD_mono (putD_env h) fun e' h => ⟨h.1, h.2.1, (fun ha _ d hd hf => by rw [h.2.2 d hd]; exact f1 ha d hd hf), f2, f3⟩

theorem gK_leaves {o : Oper} {k : Env → Sto → GHeap → Prop} (h : gK P hp nt ops o e S L k) : gK P hp nt ops o e S L fun e' S' L' => k e' S' L' ∧ Leaves hp o e L e' L' := by
  unfold gK at h ⊢
  cases hg : o.guard with
  | none => rw [hg] at h; exact opK_leaves h
  | some jw =>
    obtain ⟨j, want⟩ := jw
    rw [hg] at h
    simp only at h ⊢
    cases hj : ops.toList[j]? with
    | none => rw [hj] at h; exact h
    | some g =>
      rw [hj] at h
      simp only at h ⊢
      cases hd : g.dst with
      | none => rw [hd] at h; exact h
      | some d =>
        rw [hd] at h
        simp only at h ⊢
        have skip : ∀ {e : Env}, putD nt o.dst (.v undef) e (fun e => k e S L) → putD nt o.dst (.v undef) e fun e' => k e' S L ∧ Leaves hp o e L e' L :=
          fun h => putD_mono (putD_env h) fun e' h => ⟨h.1, h.2.1, fun _ hn => (by rw [hg] at hn; cases hn), fun _ _ _ _ _ _ _ => rfl, fun _ _ _ _ h => h⟩
        cases hv : e d with
        | v x =>
          rw [hv] at h
          cases x with
          | bool b =>
            simp only at h ⊢
            have hself := put_self (e := e) d
            rw [hv] at hself
            cases b
            · rw [hself] at h ⊢
              exact gsel_mono h skip opK_leaves
            · rw [hself] at h ⊢
              exact gsel_mono h opK_leaves skip
          | tuple vs => exact skip h
          | _ => exact h
        | _ => rw [hv] at h; exact h

theorem atK_leaves {i : Nat} {k : Env → Sto → GHeap → Prop} (h : atK P hp nt ops i k e S L) : ∃ o, ops.toList[i]? = some o ∧ atK P hp nt ops i (fun e' S' L' => k e' S' L' ∧ Leaves hp o e L e' L') e S L := by
  unfold atK at h ⊢
  cases ho : ops.toList[i]? with
  | none => rw [ho] at h; exact h.elim
  | some o => rw [ho] at h; exact ⟨o, rfl, gK_leaves h⟩

end
end Go.Proofs.YtcnkbjipogngaaaDoor.GH

namespace Go.Proofs.YtcnkbjipogngaaaDoor.GH
open Go

def HasBoxes (S : Sto) (bs : Nat → Nat) (w : World) : Prop := ∀ k cs, S k = some cs → ∃ T, w.heap[bs k]? = some (.cells (List.toArray cs) T (0, 0))

section
variable {P : Program} {B0 B : Boxes} {e : Env} {S : Sto} {L : GHeap} {bs : Nat → Nat} {a : Act} {w : World} {nt : Nat} {hp : Nat → Bool} {ops : Array Oper}

theorem Rel.has (hr : Rel B0 e S L bs B a w) : HasBoxes S bs w := fun k cs hk => hr.inv.box _ _ (hr.own k cs hk).1

def Knows (L : GHeap) (w : World) : Prop := ∀ x u, L.mem x = some u → w.cell? x = some u

def Pend (P : Program) (ops : Array Oper) (S : Sto) (bs : Nat → Nat) (L : GHeap) (g : Bool) (a : Act) (i : Nat) (v : Value) : Prop :=
  ∃ o, ops[i]? = some o ∧ (∀ cs b, o.op ≠ .select cs b) ∧ ((Region.wanted o (yielded ops a.tmps) = false ∧ v = undef) ∨
    (Region.wanted o (yielded ops a.tmps) = true ∧ ∀ w', (isLoad o.op = true → (g = true ∨ HasBoxes S bs w') ∧ (g = true → Knows L w')) → (execOp a.eval o).run P w' = .ok (.value v) w'))

theorem has_cell {k off : Nat} {cs : List Value} (h : HasBoxes S bs w) (hk : S k = some cs) : w.cell? ⟨bs k, off, none⟩ = cs[off]? := by
  obtain ⟨T, ht⟩ := h k cs hk
  unfold World.cell?
  simp [ht]

theorem load_has {t : TypeId} {b off : Nat} {k : AV → Prop} (h : loadK P t (.loc b off) S L k) : ∃ u, k (.v u) ∧ ∀ w, HasBoxes S bs w → (Instr.loadAt t (.pointer (some ⟨bs b, off, none⟩))).run P w = .ok u w := by
  unfold loadK at h
  split at h
  · rename_i i d hi hd
    simp only at h
    split at h
    · exact h.elim
    · rename_i cs hcs
      cases hag : isAggT P t with
      | true =>
        rw [hag] at h
        simp only at h
        split at h
        · rename_i hle
          have hle := Nat.le_of_ble_eq_true hle
          refine ⟨_, h, fun w hw => ?_⟩
          have hl : ((cs.drop off).take i.size).length = i.size := by simp; omega
          have : (loadCells ⟨bs b, off, none⟩ i.size).run P w = .ok ((cs.drop off).take i.size).toArray w := by
            have := run_loads (P := P) (w := w) ((cs.drop off).take i.size) ⟨bs b, off, none⟩ 0 #[] (fun j v hj => by
              rw [Nat.zero_add, add_spot rfl, has_cell hw hcs]
              rw [List.getElem?_take] at hj
              split at hj
              · rwa [List.getElem?_drop] at hj
              · cases hj)
            rw [hl] at this
            unfold loadCells
            rw [this]; simp
          simp [Instr.loadAt, Instr.sureAddr, loadVar, run_isAgg hd, hag, run_sizeOf' hi, this]
        · exact h.elim
      | false =>
        rw [hag] at h
        obtain ⟨u, hu, hk⟩ := optK_some h
        refine ⟨u, hk, fun w hw => ?_⟩
        have hc := has_cell (off := off) hw hcs
        rw [hu] at hc
        simp [Instr.loadAt, Instr.sureAddr, loadVar, run_isAgg hd, hag, hc]
  · exact h.elim

theorem load_knows {t : TypeId} {p : Value} {k : AV → Prop} (h : loadK P t (.v p) S L k) : ∃ u, k (.v u) ∧ ∀ w, Knows L w → (Instr.loadAt t p).run P w = .ok u w := by
  unfold loadK at h
  split at h
  · rename_i i d hi hd
    split at h
    · rename_i heq; cases heq
    · rename_i A heq
      cases heq
      obtain ⟨x, rfl, h⟩ := ptrK_some h
      cases hag : isAggT P t with
      | true =>
        rw [hag] at h
        simp only at h
        split at h
        · rename_i hle
          have hle := Nat.eq_of_beq_eq_true hle
          obtain ⟨cs, hl, hrd, hk⟩ := exCells_some h
          refine ⟨_, hk, fun w hw => ?_⟩
          have : (loadCells x cs.length).run P w = .ok cs.toArray w := by
            unfold loadCells
            rw [run_loads cs x 0 #[] (fun j v hj => hw _ _ (reads_cell hrd j v hj))]
            simp
          rw [hl, hle] at this
          simp [Instr.loadAt, Instr.sureAddr, loadVar, run_isAgg hd, hag, run_sizeOf' hi, this]
        · exact h.elim
      | false =>
        rw [hag] at h
        obtain ⟨u, hu, hk⟩ := exSc_some h
        refine ⟨u, hk, fun w hw => ?_⟩
        have hc := hw _ _ hu
        simp [Instr.loadAt, Instr.sureAddr, loadVar, run_isAgg hd, hag, hc]
    · exact h.elim
  · exact h.elim

theorem pure_load {op : Op} (h : pureB P op = true) : isLoad op = false := by
  cases op <;> first | rfl | cases h

theorem take_ahead {i : Nat} {K : Env → Sto → GHeap → Prop} (h : atK P hp nt ops i K e S L) (hr : Rel B0 e S L bs B a w) (hsz : a.tmps.size = nt) {listed : Array Bool} {G : List Nat}
    (ht : pureAt P ops i = true ∨ locLoad ops listed e i = true ∨ skipAt ops listed G e i = true ∨ ghLoad P hp ops listed e i = true) :
    ∃ v o e' g, ops[i]? = some o ∧ Pend P ops S bs L g a i v ∧ (g = true → ghLoad P hp ops listed e i = true) ∧ (isLoad o.op = true → g = false → locLoad ops listed e i = true ∨ skipAt ops listed G e i = true) ∧ K e' S L ∧ Rel B0 e' S L bs B (a.put o.dst v) w ∧ ((pureB P o.op = true) ∨ isLoad o.op = true ∨ (isStore o.op = false ∧ Region.wanted o (yielded ops a.tmps) = false)) := by
  unfold atK at h
  cases ho : ops.toList[i]? with
  | none => rw [ho] at h; exact h.elim
  | some o =>
    rw [ho] at h
    have ho' : ops[i]? = some o := by rw [← Array.getElem?_toList]; exact ho
    by_cases hsk : skipAt ops listed G e i = true
    · have hsk0 := hsk
      unfold skipAt at hsk
      rw [ho] at hsk
      simp only at hsk
      split at hsk
      case h_2 => cases hsk
      rename_i gj want hguard
      split at hsk
      case h_2 => cases hsk
      rename_i g hg
      split at hsk
      case h_2 => cases hsk
      rename_i d hd
      simp only [Bool.and_eq_true] at hsk
      obtain ⟨⟨⟨hs1, hs2⟩, hs3⟩, hs4⟩ := hsk
      have hsel : ∀ cs b, o.op ≠ .select cs b := by
        intro cs b hs
        rw [hs] at hs3; cases hs3
      have hst : isStore o.op = false := by simpa using hs2
      have key : ∃ e', K e' S L ∧ Rel B0 e' S L bs B (a.put o.dst undef) w ∧ Region.wanted o (yielded ops a.tmps) = false := by
        have hw0 : Region.wanted o (yielded ops a.tmps) = false := by
          refine skip_wanted hguard hg hd hr ?_
          split at hs1
          · rename_i b he
            split at hs1
            · exact .inl ⟨b, he, hs1⟩
            · cases hs1
          · rename_i vs he
            exact .inr ⟨vs, he⟩
          · cases hs1
        rcases gK_cases h hr with ⟨hw, h'⟩ | ⟨hw, h'⟩
        · rw [hw0] at hw; cases hw
        · obtain ⟨e', hke, hr'⟩ := hr.putD (x := .v undef) (v := undef) rfl trivial hsz h'
          exact ⟨e', hke, hr', hw⟩
      obtain ⟨e', hke, hr', hw⟩ := key
      exact ⟨undef, o, e', false, ho', ⟨o, ho', hsel, .inl ⟨hw, rfl⟩⟩, (fun h => by cases h), (fun _ _ => .inr hsk0), hke, hr', .inr (.inr ⟨hst, hw⟩)⟩
    have ht : pureAt P ops i = true ∨ locLoad ops listed e i = true ∨ ghLoad P hp ops listed e i = true := ht.imp id fun h => h.imp id fun h => h.resolve_left hsk
    have hkind : pureB P o.op = true ∨ ∃ t p, o.op = .load t p ∧ ((∃ b off, e.ev p = .loc b off ∧ locLoad ops listed e i = true) ∨ ((∃ x, e.ev p = .v x) ∧ ghLoad P hp ops listed e i = true)) := by
      rcases ht with ht | ht | ht
      · unfold pureAt at ht; rw [ho] at ht; exact .inl ht
      · have ht0 := ht
        unfold locLoad at ht
        rw [ho] at ht
        simp only at ht
        cases hop : o.op <;> rw [hop] at ht <;> first | cases ht | skip
        rename_i t p
        simp only [Bool.and_eq_true] at ht
        cases hp : e.ev p <;> rw [hp] at ht <;> first | (cases ht.1; done) | skip
        exact .inr ⟨t, p, rfl, .inl ⟨_, _, hp, ht0⟩⟩
      · have ht0 := ht
        unfold ghLoad at ht
        rw [ho] at ht
        simp only at ht
        cases hop : o.op <;> rw [hop] at ht <;> first | cases ht | skip
        rename_i t p
        simp only [Bool.and_eq_true] at ht
        cases hp : e.ev p <;> rw [hp] at ht <;> first | (cases ht.1; done) | skip
        exact .inr ⟨t, p, rfl, .inr ⟨⟨_, hp⟩, ht0⟩⟩
    have hsel : ∀ cs b, o.op ≠ .select cs b := by
      intro cs b hs
      rcases hkind with hk | ⟨_, _, hk, _⟩
      · rw [hs] at hk; cases hk
      · rw [hs] at hk; cases hk
    have hlk : pureB P o.op = true ∨ isLoad o.op = true := by
      rcases hkind with hk | ⟨_, _, hk, _⟩
      · exact .inl hk
      · rw [hk]; exact .inr rfl
    rcases gK_cases h hr with ⟨hw, h⟩ | ⟨hw, h⟩
    · unfold opK at h
      rcases hkind with hk | ⟨t, p, hop, ⟨b, off, hev, hll⟩ | ⟨⟨x, hev⟩, hgh⟩⟩
      · rw [hk] at h
        obtain ⟨x, h1, h2, h4, h3⟩ := pure_sound P h
        obtain ⟨v, hv, hrun⟩ := h3 bs a.eval hr.ev
        obtain ⟨e', hke, hr'⟩ := hr.putD (v := v) hv (h4 S hr.wfev) hsz h1
        exact ⟨v, o, e', false, ho', ⟨o, ho', hsel, .inr ⟨hw, fun w' _ => hrun w'⟩⟩, (fun h => by cases h), (fun hl _ => absurd hl (by rw [pure_load hk]; simp)), hke, hr', .inl hk⟩
      · have hnp : pureB P o.op = false := by rw [hop]; rfl
        rw [hnp] at h
        simp only [memK, hop, hev] at h
        obtain ⟨u, hu, hrun⟩ := load_has (bs := bs) h
        obtain ⟨e', hke, hr'⟩ := hr.putD (x := .v u) (v := u) rfl trivial hsz hu
        have he := hr.ev p
        rw [hev] at he
        simp only [AVr] at he
        refine ⟨u, o, e', false, ho', ⟨o, ho', hsel, .inr ⟨hw, fun w' hb => ?_⟩⟩, (fun h => by cases h), (fun _ _ => .inl hll), hke, hr', .inr (.inl (by rw [hop]; rfl))⟩
        simp [execOp, hop, he, hrun w' ((hb (by rw [hop]; rfl)).1.resolve_left (by simp))]
      · have hnp : pureB P o.op = false := by rw [hop]; rfl
        rw [hnp] at h
        simp only [memK, hop, hev] at h
        obtain ⟨u, hu, hrun⟩ := load_knows h
        obtain ⟨e', hke, hr'⟩ := hr.putD (x := .v u) (v := u) rfl trivial hsz hu
        have he := hr.ev p
        rw [hev] at he
        simp only [AVr] at he
        refine ⟨u, o, e', true, ho', ⟨o, ho', hsel, .inr ⟨hw, fun w' hb => ?_⟩⟩, (fun _ => hgh), (fun _ h => by cases h), hke, hr', .inr (.inl (by rw [hop]; rfl))⟩
        have hb' := (hb (by rw [hop]; rfl)).2 rfl
        simp [execOp, hop, he, hrun w' hb']
    · obtain ⟨e', hke, hr'⟩ := hr.putD (x := .v undef) (v := undef) rfl trivial hsz h
      rcases hkind with hk | ⟨t, p, hop, ⟨b, off, hev, hll⟩ | ⟨⟨x, hev⟩, hgh⟩⟩
      · exact ⟨undef, o, e', false, ho', ⟨o, ho', hsel, .inl ⟨hw, rfl⟩⟩, (fun h => by cases h), (fun hl _ => absurd hl (by rw [pure_load hk]; simp)), hke, hr', hlk.imp id .inl⟩
      · exact ⟨undef, o, e', false, ho', ⟨o, ho', hsel, .inl ⟨hw, rfl⟩⟩, (fun h => by cases h), (fun _ _ => .inl hll), hke, hr', hlk.imp id .inl⟩
      · exact ⟨undef, o, e', true, ho', ⟨o, ho', hsel, .inl ⟨hw, rfl⟩⟩, (fun _ => hgh), (fun _ h => by cases h), hke, hr', hlk.imp id .inl⟩

def dstOf (ops : Array Oper) (i : Nat) : Option Nat := (ops[i]?).bind (·.dst)

def virt (ops : Array Oper) (a : Act) : List (Nat × Value) → Act
  | [] => a
  | (i, v) :: D => virt ops (a.put (dstOf ops i) v) D

def fin (listed : Array Bool) : List (Nat × Value) → Array Bool
  | [] => listed
  | (i, _) :: D => fin (listed.setIfInBounds i true) D

inductive Behind (ops : Array Oper) (i : Nat) : Nat → Prop
  | one {j : Nat} {oj : Oper} {e : _} : ops[j]? = some oj → e ∈ oj.after → Region.binds .any e = true → e.on = i → Behind ops i j
  | more {j : Nat} {oj : Oper} {e : _} : ops[j]? = some oj → e ∈ oj.after → Region.binds .any e = true → Behind ops i e.on → Behind ops i j

def ClosedL (ops : Array Oper) (listed : Array Bool) : Prop := ∀ j oj, ops[j]? = some oj → listed.getD j false = true → ∀ e ∈ oj.after, Region.binds .any e = true → listed.getD e.on false = true

theorem Behind.listed {i j : Nat} {listed : Array Bool} (hc : ClosedL ops listed) (h : Behind ops i j) : listed.getD j false = true → listed.getD i false = true := by
  induction h with
  | one ho he hb e => exact fun hl => e ▸ hc _ _ ho hl _ he hb
  | more ho he hb _ ih => exact fun hl => ih (hc _ _ ho hl _ he hb)

theorem Behind.ready {i j : Nat} {listed : Array Bool} (hc : ClosedL ops listed) (h : Behind ops i j) (hj : j ∈ Region.ready .any ops listed) : listed.getD i false = true := by
  obtain ⟨_, o, ho, hall⟩ := mem_ready.1 hj
  cases h with
  | one ho' he hb e =>
    rw [ho] at ho'; cases ho'
    exact e ▸ hall _ he hb
  | more ho' he hb h =>
    rw [ho] at ho'; cases ho'
    exact h.listed hc (hall _ he hb)

theorem ready_unlisted {i : Nat} {listed : Array Bool} (hi : i ∈ Region.ready .any ops listed) : ¬ listed.getD i false = true := by
  have h0 := (mem_ready.1 hi).1
  intro h1
  rcases Nat.lt_or_ge i listed.size with h' | h'
  · simp [h'] at h0 h1; rw [h0] at h1; cases h1
  · simp [Array.getElem?_eq_none h'] at h1

theorem ClosedL.set {j : Nat} {listed : Array Bool} (hc : ClosedL ops listed) (hj : j ∈ Region.ready .any ops listed) : ClosedL ops (listed.setIfInBounds j true) := by
  have up : ∀ k, listed.getD k false = true → (listed.setIfInBounds j true).getD k false = true := by
    intro k hk
    by_cases hjk : j = k
    · subst hjk; exact absurd hk (ready_unlisted hj)
    · rw [Array.getD_eq_getD_getElem?] at hk ⊢
      rw [Array.getElem?_setIfInBounds_ne hjk]; exact hk
  intro k ok hk hl e he hb
  by_cases hjk : j = k
  · subst hjk
    obtain ⟨_, o, ho, hall⟩ := mem_ready.1 hj
    rw [ho] at hk; cases hk
    exact up _ (hall e he hb)
  · refine up _ (hc k ok hk ?_ e he hb)
    rw [Array.getD_eq_getD_getElem?] at hl ⊢
    rw [Array.getElem?_setIfInBounds_ne hjk] at hl; exact hl

theorem inB_mem {d : Nat} : ∀ {l : List Nat}, inB d l = true → d ∈ l
  | [], h => by cases h
  | x :: l, h => by
    unfold inB at h
    cases hb : Nat.beq d x with
    | true => rw [Nat.eq_of_beq_eq_true hb]; exact List.mem_cons_self ..
    | false => rw [hb] at h; exact List.mem_cons_of_mem _ (inB_mem h)

theorem behindL_spec {i : Nat} : ∀ (js acc : List Nat), (∀ k ∈ acc, k = i ∨ Behind ops i k) → ∀ k ∈ behindL ops js acc, k = i ∨ Behind ops i k
  | [], acc, h, k, hk => h k hk
  | j :: js, acc, h, k, hk => by
    unfold behindL at hk
    cases ho : ops.toList[j]? with
    | none => rw [ho] at hk; exact behindL_spec js acc h k hk
    | some oj =>
      rw [ho] at hk
      simp only at hk
      have ho' : ops[j]? = some oj := by rw [← Array.getElem?_toList]; exact ho
      cases ha : oj.after.any fun e => Region.binds .any e && inB e.on acc with
      | false => rw [ha] at hk; exact behindL_spec js acc h k hk
      | true =>
        rw [ha] at hk
        refine behindL_spec js (j :: acc) (fun m hm => ?_) k hk
        rcases List.mem_cons.1 hm with rfl | hm
        · obtain ⟨e, he, hb⟩ := Array.any_eq_true'.1 ha
          simp only [Bool.and_eq_true] at hb
          rcases h _ (inB_mem hb.2) with h1 | h1
          · exact .inr (.one ho' he hb.1 h1)
          · exact .inr (.more ho' he hb.1 h1)
        · exact h m hm

def Apart (P : Program) (hp : Nat → Bool) (ops : Array Oper) (X : Nat → Prop) (g : Bool) (listed : Array Bool) (i : Nat) : Prop :=
  ∀ oi, ops[i]? = some oi → isStore oi.op = false ∧ ∀ (j : Nat) (oj : Oper), ops[j]? = some oj → j ≠ i → listed.getD j true = false →
    (∀ e ∈ oj.after, Region.binds .any e = true → e.on ≠ i) → oi.apart ops oj = true ∧ (isLoad oi.op = true → g = false → isStore oj.op = false ∨ Behind ops i j) ∧ (g = true → (quietQ P true oj.op = true ∨ Behind ops i j ∨ softB hp ops oj = true) ∨ X j)

def Calm (P : Program) (ops : Array Oper) (X : Nat → Prop) (i : Nat) : Prop := ∀ oi, ops[i]? = some oi → quietQ P true oi.op = true ∨ X i

def PendAll (P : Program) (hp : Nat → Bool) (ops : Array Oper) (X : Nat → Prop) (S : Sto) (bs : Nat → Nat) (L : GHeap) : Array Bool → Act → List (Nat × Value) → Prop
  | _, _, [] => True
  | listed, a, (i, v) :: D => (∃ g, Pend P ops S bs L g a i v ∧ Apart P hp ops X g listed i) ∧ i ∈ Region.ready .any ops listed ∧ Calm P ops X i ∧ PendAll P hp ops X S bs L (listed.setIfInBounds i true) (a.put (dstOf ops i) v) D

theorem Apart.more {X X' : Nat → Prop} (hx : ∀ i, X i → X' i) {g : Bool} {listed : Array Bool} {i : Nat} (h : Apart P hp ops X g listed i) : Apart P hp ops X' g listed i := fun oi hi =>
  ⟨(h oi hi).1, fun j oj h1 h2 h3 h4 => let ⟨q1, q2, q3⟩ := (h oi hi).2 j oj h1 h2 h3 h4; ⟨q1, q2, fun hg => (q3 hg).imp id (hx j)⟩⟩

theorem PendAll.more {X X' : Nat → Prop} (hx : ∀ i, X i → X' i) : ∀ (D : List (Nat × Value)) (listed : Array Bool) (a : Act), PendAll P hp ops X S bs L listed a D → PendAll P hp ops X' S bs L listed a D
  | [], _, _, _ => trivial
  | (i, v) :: D, listed, a, h => ⟨let ⟨g, h1, h2⟩ := h.1; ⟨g, h1, h2.more hx⟩, h.2.1, fun oi hi => (h.2.2.1 oi hi).imp id (hx i), PendAll.more hx D _ _ h.2.2.2⟩

theorem apart_symm {x y : Oper} (h : x.apart ops y = true) : y.apart ops x = true := by
  obtain ⟨h1, h2, h3⟩ := Oper.apart_spec h
  unfold Oper.apart
  simp only [Bool.and_eq_true]
  constructor
  · cases hy : y.dst with
    | none => rfl
    | some d =>
      simp only [Bool.and_eq_true]
      refine ⟨by simpa using h3 d hy, ?_⟩
      simp only [bne_iff_ne, ne_eq]
      intro hx
      exact h2 d hx hy
  · cases hx : x.dst with
    | none => rfl
    | some d => simpa using h1 d hx

theorem Pend.put {i : Nat} {v : Value} {oi oj : Oper} (hi : ops[i]? = some oi) (hap : oi.apart ops oj = true) {g : Bool} (h : Pend P ops S bs L g a i v) (u : Value) : Pend P ops S bs L g (a.put oj.dst u) i v := by
  obtain ⟨o, ho, hsel, h⟩ := h
  rw [hi] at ho; cases ho
  obtain ⟨h1, h2, h3⟩ := Oper.apart_spec hap
  refine ⟨oi, hi, hsel, ?_⟩
  rw [wanted_put oi a oj.dst u h3, execOp_put oi hsel a oj.dst u h3]
  exact h

theorem Pend.unput {i : Nat} {v : Value} {oi oj : Oper} (hi : ops[i]? = some oi) (hap : oi.apart ops oj = true) (u : Value) {g : Bool} (h : Pend P ops S bs L g (a.put oj.dst u) i v) : Pend P ops S bs L g a i v := by
  obtain ⟨o, ho, hsel, h⟩ := h
  rw [hi] at ho; cases ho
  obtain ⟨h1, h2, h3⟩ := Oper.apart_spec hap
  refine ⟨oi, hi, hsel, ?_⟩
  rw [wanted_put oi a oj.dst u h3, execOp_put oi hsel a oj.dst u h3] at h
  exact h

theorem Pend.mono {S' : Sto} {bs' : Nat → Nat} {L' : GHeap} {g : Bool} {i : Nat} {v : Value} (h : Pend P ops S bs L g a i v) (hx : ∀ oi, ops[i]? = some oi → isLoad oi.op = true → g = false → ∀ k cs, S k = some cs → S' k = some cs ∧ bs' k = bs k)
    (hg : g = true → ∀ x v, L.mem x = some v → L'.mem x = some v) : Pend P ops S' bs' L' g a i v := by
  obtain ⟨o, ho, hsel, h⟩ := h
  refine ⟨o, ho, hsel, h.imp id fun ⟨hw, hr⟩ => ⟨hw, fun w' hb => hr w' fun hl => ⟨?_, fun h1 => ?_⟩⟩⟩
  · cases g with
    | true => exact .inl rfl
    | false =>
      refine .inr fun k cs hk => ?_
      obtain ⟨h1, h2⟩ := hx o ho hl rfl k cs hk
      obtain ⟨T, ht⟩ := ((hb hl).1.resolve_left (by simp)) k cs h1
      rw [h2] at ht
      exact ⟨T, ht⟩
  · have := (hb hl).2 h1
    exact fun x v hm => this x v (hg h1 x v hm)

theorem dst_eq {i : Nat} {oi : Oper} (hi : ops[i]? = some oi) : dstOf ops i = oi.dst := by simp [dstOf, hi]

theorem put_comm' {x y : Oper} (h : x.apart ops y = true) (a : Act) (u v : Value) : (a.put x.dst u).put y.dst v = (a.put y.dst v).put x.dst u := by
  obtain ⟨h1, h2, h3⟩ := Oper.apart_spec h
  exact Act.put_comm a u v (fun d hd => h2 d hd)

theorem ready_not {listed : Array Bool} {i j : Nat} {oj : Oper} (hj : j ∈ Region.ready .any ops listed) (hoj : ops[j]? = some oj) (hi : i ∈ Region.ready .any ops listed) :
    ∀ e ∈ oj.after, Region.binds .any e = true → e.on ≠ i := by
  obtain ⟨_, o, ho, hall⟩ := mem_ready.1 hj
  rw [hoj] at ho; cases ho
  intro e he hb heq
  have h1 := hall e he hb
  have h0 := (mem_ready.1 hi).1
  rw [heq] at h1
  rcases Nat.lt_or_ge i listed.size with h' | h'
  · simp [h'] at h0 h1; rw [h0] at h1; cases h1
  · simp [Array.getElem?_eq_none h'] at h1

theorem Apart.set {X : Nat → Prop} {g : Bool} {listed : Array Bool} {i j : Nat} (h : Apart P hp ops X g listed i) : Apart P hp ops X g (listed.setIfInBounds j true) i := by
  intro oi hi
  obtain ⟨h0, h1⟩ := h oi hi
  refine ⟨h0, fun k ok hk hki hun hno => h1 k ok hk hki ?_ hno⟩
  by_cases hjk : j = k
  · subst hjk
    rcases Nat.lt_or_ge j listed.size with h' | h'
    · simp [h'] at hun
    · simp [Array.getElem?_eq_none h'] at hun
  · rwa [getD_set_ne true hjk] at hun

theorem pend_front {X : Nat → Prop} : ∀ (D : List (Nat × Value)) (listed : Array Bool) (a : Act) (j : Nat), PendAll P hp ops X S bs L listed a D → j ∈ D.map (·.1) → j ∈ Region.ready .any ops listed →
    ∃ u D', PendAll P hp ops X S bs L listed a ((j, u) :: D') ∧ D'.length + 1 = D.length ∧ virt ops a ((j, u) :: D') = virt ops a D ∧ fin listed ((j, u) :: D') = fin listed D
  | [], _, _, _, _, hj, _ => by cases hj
  | (i, v) :: D, listed, a, j, h, hj, hr => by
    by_cases hij : j = i
    · subst hij; exact ⟨v, D, h, rfl, rfl, rfl⟩
    · obtain ⟨⟨gi, h1, h3⟩, h2, hci, h4⟩ := h
      have hj' : j ∈ D.map (·.1) := by
        simp only [List.map_cons, List.mem_cons] at hj
        exact hj.resolve_left hij
      obtain ⟨u, D', g1, g2, g3, g4⟩ := pend_front D _ _ j h4 hj' (ready_mono hr hij)
      obtain ⟨⟨gj, p1, p3⟩, p2, hcj, p4⟩ := g1
      obtain ⟨hjun, oj, hoj, hall⟩ := mem_ready.1 hr
      obtain ⟨hiun, oi, hoi, _⟩ := mem_ready.1 h2
      have hap := ((h3 oi hoi).2 j oj hoj hij hjun (ready_not hr hoj h2)).1
      rw [dst_eq hoi] at p1 p4 g3
      have hpj : Pend P ops S bs L gj a j u := p1.unput hoj (apart_symm hap) v
      have hpi : Pend P ops S bs L gi (a.put oj.dst u) i v := h1.put hoi hap u
      refine ⟨u, (i, v) :: D', ⟨⟨gj, hpj, ?_⟩, hr, hcj, ?_⟩, by simp; omega, ?_, ?_⟩
      · intro oj' hoj'
        rw [hoj] at hoj'; cases hoj'
        obtain ⟨q0, q1⟩ := p3 oj hoj
        refine ⟨q0, fun k ok hk hkj hun hno => ?_⟩
        by_cases hki : k = i
        · subst hki
          rw [hoi] at hk; cases hk
          exact ⟨apart_symm hap, fun _ _ => .inl (h3 oi hoi).1, fun _ => (hci oi hoi).imp .inl id⟩
        · exact q1 k ok hk hkj (by rw [getD_set_ne true (Ne.symm hki)]; exact hun) hno
      · rw [dst_eq hoj]
        refine ⟨⟨gi, hpi, h3.set⟩, ready_mono h2 (Ne.symm hij), hci, ?_⟩
        rw [dst_eq hoi, ← put_comm' hap, Array.setIfInBounds_comm _ _ (Ne.symm (Ne.symm hij))]
        rw [dst_eq hoj] at p4
        exact p4
      · rw [← show virt ops (a.put (dstOf ops i) v) D = virt ops a ((i, v) :: D) from rfl, dst_eq hoi, ← g3]
        simp only [virt, dst_eq hoi, dst_eq hoj, put_comm' hap]
      · rw [← show fin (listed.setIfInBounds i true) D = fin listed ((i, v) :: D) from rfl, ← g4]
        simp only [fin]
        rw [Array.setIfInBounds_comm _ _ hij]

theorem pend_snoc {X : Nat → Prop} : ∀ (D : List (Nat × Value)) (listed : Array Bool) (a : Act) (i : Nat) (v : Value), PendAll P hp ops X S bs L listed a D → (∃ g, Pend P ops S bs L g (virt ops a D) i v ∧ Apart P hp ops X g (fin listed D) i) →
    i ∈ Region.ready .any ops (fin listed D) → Calm P ops X i → PendAll P hp ops X S bs L listed a (D ++ [(i, v)])
  | [], _, _, _, _, _, h1, h2, h3 => ⟨h1, h2, h3, trivial⟩
  | (j, u) :: D, listed, a, i, v, h, h1, h2, h3 => ⟨h.1, h.2.1, h.2.2.1, pend_snoc D _ _ i v h.2.2.2 h1 h2 h3⟩

theorem virt_snoc : ∀ (D : List (Nat × Value)) (a : Act) (i : Nat) (v : Value), virt ops a (D ++ [(i, v)]) = (virt ops a D).put (dstOf ops i) v
  | [], _, _, _ => rfl
  | (j, u) :: D, a, i, v => virt_snoc D _ i v

theorem fin_snoc : ∀ (D : List (Nat × Value)) (listed : Array Bool) (i : Nat) (v : Value), fin listed (D ++ [(i, v)]) = (fin listed D).setIfInBounds i true
  | [], _, _, _ => rfl
  | (j, u) :: D, listed, i, v => fin_snoc D _ i v

theorem virt_size : ∀ (D : List (Nat × Value)) (a : Act), (virt ops a D).tmps.size = a.tmps.size
  | [], _ => rfl
  | (i, v) :: D, a => by rw [virt, virt_size D, put_size]

theorem ready_fin : ∀ (D : List (Nat × Value)) (listed : Array Bool) (j : Nat), j ∈ Region.ready .any ops listed → j ∉ D.map (·.1) → j ∈ Region.ready .any ops (fin listed D)
  | [], _, _, h, _ => h
  | (i, v) :: D, listed, j, h, hn => by
    simp only [List.map_cons, List.mem_cons, not_or] at hn
    exact ready_fin D _ j (ready_mono h hn.1) hn.2

theorem pend_apart {X : Nat → Prop} : ∀ (D : List (Nat × Value)) (listed : Array Bool) (a : Act) (j : Nat) (oj : Oper), PendAll P hp ops X S bs L listed a D → j ∈ Region.ready .any ops listed → j ∉ D.map (·.1) → ops[j]? = some oj → ¬ X j →
    ∀ p ∈ D, ∃ oi, ops[p.1]? = some oi ∧ oi.apart ops oj = true
  | [], _, _, _, _, _, _, _, _, _, p, hp => by cases hp
  | (i, v) :: D, listed, a, j, oj, h, hr, hn, hoj, hX, p, hp => by
    simp only [List.map_cons, List.mem_cons, not_or] at hn
    obtain ⟨⟨g, h1, h3⟩, h2, hc, h4⟩ := h
    cases hp with
    | head =>
      obtain ⟨_, oi, hoi, _⟩ := mem_ready.1 h2
      have := (h3 oi hoi).2 j oj hoj hn.1 (mem_ready.1 hr).1 (ready_not hr hoj h2)
      exact ⟨oi, hoi, this.1⟩
    | tail _ hp => exact pend_apart D _ _ j oj h4 (ready_mono hr hn.1) hn.2 hoj hX p hp

theorem virt_put {oj : Oper} (u : Value) : ∀ (D : List (Nat × Value)) (a : Act), (∀ p ∈ D, ∃ oi, ops[p.1]? = some oi ∧ oi.apart ops oj = true) → virt ops (a.put oj.dst u) D = (virt ops a D).put oj.dst u
  | [], _, _ => rfl
  | (i, v) :: D, a, h => by
    obtain ⟨oi, hoi, hap⟩ := h (i, v) (by simp)
    simp only [virt, dst_eq hoi]
    rw [put_comm' (apart_symm hap)]
    exact virt_put u D _ fun p hp => h p (List.mem_cons_of_mem _ hp)

theorem fin_put {j : Nat} : ∀ (D : List (Nat × Value)) (listed : Array Bool), j ∉ D.map (·.1) → fin (listed.setIfInBounds j true) D = (fin listed D).setIfInBounds j true
  | [], _, _ => rfl
  | (i, v) :: D, listed, h => by
    simp only [List.map_cons, List.mem_cons, not_or] at h
    simp only [fin]
    rw [Array.setIfInBounds_comm _ _ h.1]
    exact fin_put D _ h.2

theorem pend_put {X : Nat → Prop} {S' : Sto} {bs' : Nat → Nat} {L' : GHeap} {j : Nat} {oj : Oper} (u : Value) (hoj : ops[j]? = some oj) (hX : ¬ X j) : ∀ (D : List (Nat × Value)) (listed : Array Bool) (a : Act), PendAll P hp ops X S bs L listed a D → j ∉ D.map (·.1) →
    j ∈ Region.ready .any ops listed → (isStore oj.op = false → ∀ k cs, S k = some cs → S' k = some cs ∧ bs' k = bs k) → (quietQ P true oj.op = true ∨ softB hp ops oj = true → ∀ x v, L.mem x = some v → L'.mem x = some v) → ClosedL ops listed →
    PendAll P hp ops X S' bs' L' (listed.setIfInBounds j true) (a.put oj.dst u) D
  | [], _, _, _, _, _, _, _, _ => trivial
  | (i, v) :: D, listed, a, h, hn, hr, hx, hq, hcl => by
    simp only [List.map_cons, List.mem_cons, not_or] at hn
    obtain ⟨⟨g, h1, h3⟩, h2, hc, h4⟩ := h
    obtain ⟨_, oi, hoi, _⟩ := mem_ready.1 h2
    obtain ⟨ha, hl, hg⟩ := (h3 oi hoi).2 j oj hoj hn.1 (mem_ready.1 hr).1 (ready_not hr hoj h2)
    refine ⟨⟨g, (h1.put hoi ha u).mono (fun oi' hoi' hld hgf => hx ((hl (by rw [hoi] at hoi'; cases hoi'; exact hld) hgf).resolve_right fun hbe => ready_unlisted h2 (hbe.ready hcl hr))) (fun h => hq (((hg h).resolve_right hX).imp id fun h => h.resolve_left fun hbe => ready_unlisted h2 (hbe.ready hcl hr))), h3.set⟩, ready_mono h2 (Ne.symm hn.1), hc, ?_⟩
    rw [dst_eq hoi, put_comm' (apart_symm ha), Array.setIfInBounds_comm _ _ hn.1]
    rw [dst_eq hoi] at h4
    exact pend_put u hoj hX D _ _ h4 hn.2 (ready_mono hr hn.1) hx hq (hcl.set h2)

theorem looks_virt {oj : Oper} (hsel : ∀ cs b, oj.op ≠ .select cs b) : ∀ (D : List (Nat × Value)) (a : Act), (∀ p ∈ D, ∃ oi, ops[p.1]? = some oi ∧ oi.apart ops oj = true) →
    execOp (virt ops a D).eval oj = execOp a.eval oj ∧ Region.wanted oj (yielded ops (virt ops a D).tmps) = Region.wanted oj (yielded ops a.tmps)
  | [], _, _ => ⟨rfl, rfl⟩
  | (i, v) :: D, a, h => by
    obtain ⟨oi, hoi, hap⟩ := h (i, v) (by simp)
    obtain ⟨h1, h2⟩ := looks_virt hsel D (a.put oi.dst v) fun p hp => h p (List.mem_cons_of_mem _ hp)
    obtain ⟨g1, g2, g3⟩ := Oper.apart_spec hap
    simp only [virt, dst_eq hoi]
    rw [h1, h2]
    exact ⟨execOp_put oj hsel a oi.dst v g1, wanted_put oj a oi.dst v g1⟩

def LI (hp : Nat → Bool) (ops : Array Oper) (listed : Array Bool) (e : Env) : Prop :=
  ∀ k o d, ops[k]? = some o → listed.getD k false = true → o.dst = some d → allocOnly ops d = true → hp d = false → ∃ b off, e d = .loc b off

theorem allocOnly_spec {d k : Nat} {o : Oper} (h : allocOnly ops d = true) (ho : ops[k]? = some o) (hd : o.dst = some d) : isAlloc o.op = true ∧ o.guard = none := by
  unfold allocOnly at h
  have hm : o ∈ ops.toList := List.mem_of_getElem? (by rw [Array.getElem?_toList]; exact ho)
  have := (List.all_eq_true.1 h) o hm
  rw [hd] at this
  simp only [show Nat.beq d d = true from Nat.beq_refl d, Bool.not_true, Bool.false_or, Bool.and_eq_true] at this
  exact ⟨this.1, by simpa using this.2⟩

theorem LI.step {i : Nat} {o : Oper} {listed : Array Bool} {e e' : Env} {L L' : GHeap} (h : LI hp ops listed e) (ho : ops[i]? = some o) (hlv : Leaves hp o e L e' L') : LI hp ops (listed.setIfInBounds i true) e' := by
  intro k ok d hk hl hd ha hf
  by_cases hki : i = k
  · subst hki
    rw [ho] at hk; cases hk
    obtain ⟨h1, h2⟩ := allocOnly_spec ha ho hd
    exact hlv.box h1 h2 d hd hf
  · have hl' : listed.getD k false = true := by
      rw [Array.getD_eq_getD_getElem?] at hl ⊢
      rw [Array.getElem?_setIfInBounds_ne hki] at hl; exact hl
    obtain ⟨b, off, he⟩ := h k ok d hk hl' hd ha hf
    by_cases hod : o.dst = some d
    · obtain ⟨h1, h2⟩ := allocOnly_spec ha ho hod
      exact hlv.box h1 h2 d hod hf
    · exact ⟨b, off, by rw [hlv.other d hod]; exact he⟩

theorem locStore_leaves {j : Nat} {o : Oper} {listed : Array Bool} {e e' : Env} {L L' : GHeap} (h : LI hp ops listed e) (hs : locStore hp ops o = true) (ho : ops[j]? = some o) (hj : j ∈ Region.ready .any ops listed) (hlv : Leaves hp o e L e' L') : L' = L := by
  unfold locStore at hs
  cases hop : o.op <;> rw [hop] at hs <;> first | (cases hs; done) | skip
  rename_i t p x
  cases p <;> first | (cases hs; done) | skip
  rename_i d
  simp only [Bool.and_eq_true] at hs
  obtain ⟨⟨h1, h2⟩, h3⟩ := hs
  obtain ⟨ed, hed, hb⟩ := Array.any_eq_true'.1 h3
  simp only [Bool.and_eq_true] at hb
  obtain ⟨hb, hm⟩ := hb
  obtain ⟨_, o', ho', hall⟩ := mem_ready.1 hj
  rw [ho] at ho'; cases ho'
  have hl := hall ed hed hb
  cases ha : ops.toList[ed.on]? with
  | none => rw [ha] at hm; cases hm
  | some a =>
    rw [ha] at hm
    simp only at hm
    have ha' : ops[ed.on]? = some a := by rw [← Array.getElem?_toList]; exact ha
    cases hd : a.dst with
    | none => rw [hd] at hm; cases hm
    | some d' =>
      rw [hd] at hm
      have := Nat.eq_of_beq_eq_true hm
      subst this
      obtain ⟨b, off, he⟩ := h _ a d' ha' hl hd h2 (by simpa using h1)
      exact hlv.store t (.tmp d') x b off hop he

theorem soft_leaves {j : Nat} {o : Oper} {listed : Array Bool} {e e' : Env} {L L' : GHeap} (h : LI hp ops listed e) (hs : softB hp ops o = true) (ho : ops[j]? = some o) (hj : j ∈ Region.ready .any ops listed) (hlv : Leaves hp o e L e' L') : ∀ x v, L.mem x = some v → L'.mem x = some v := by
  unfold softB at hs
  rcases Bool.or_eq_true_iff.1 hs with hs | hs
  · rw [locStore_leaves h hs ho hj hlv]; exact fun _ _ hm => hm
  · simp only [Bool.and_eq_true] at hs
    exact hlv.keep hs.1 hs.2

theorem allOf_mem {X : Nat → Prop} : ∀ {l : List Nat}, allOf X l → ∀ i ∈ l, X i
  | [], _, i, hi => by cases hi
  | [j], h, i, hi => by simp at hi; subst hi; exact h
  | j :: k :: l, h, i, hi => by
    cases hi with
    | head => exact h.1
    | tail _ hi => exact allOf_mem h.2 i hi

theorem any_sound {K : Env → Sto → GHeap → Prop} {Q : Exit → Act → World → Prop} (hQ : ∀ a w, a.tmps.size = nt → Go1 B0 K a w → Q .normal a w) (hsel : Region.noSelect ops = true) :
    ∀ (n : Nat) (listedA : Array Bool) (G : List Nat) (e : Env) (S : Sto) (L : GHeap), anyK P hp nt ops K n listedA G e S L → LI hp ops listedA e → ∀ (m : Nat) (X : Nat → Prop) (D : List (Nat × Value)) (listed : Array Bool) (a : Act) (w : World) (bs : Nat → Nat) (B : Boxes),
      (∀ i, X i → listedA.getD i true = true) → D.length = m → PendAll P hp ops X S bs L listed a D → ClosedL ops listed → listedA = fin listed D → Rel B0 e S L bs B (virt ops a D) w → a.tmps.size = nt → wpAny P .any ops Q (n + m) listed a w := by
  -- the phase in which what is pending runs
  have phase : ∀ (n : Nat) (listedA : Array Bool) (e : Env) (S : Sto) (L : GHeap),
      (Region.ready .any ops listedA = [] → K e S L) →
      (∀ (j : Nat) (X : Nat → Prop) (D : List (Nat × Value)) (listed : Array Bool) (a : Act) (w : World) (bs : Nat → Nat) (B : Boxes), (∀ i, X i → listedA.getD i true = true) → j ∈ Region.ready .any ops listed → j ∉ D.map (·.1) → j ∈ Region.ready .any ops listedA → PendAll P hp ops X S bs L listed a D → ClosedL ops listed → listedA = fin listed D →
        Rel B0 e S L bs B (virt ops a D) w → a.tmps.size = nt → ∃ n', n = n' + 1 ∧ wpOp P ops Q j (wpAny P .any ops Q (n' + D.length) (listed.setIfInBounds j true)) a w) →
      ∀ (m : Nat) (X : Nat → Prop) (D : List (Nat × Value)) (listed : Array Bool) (a : Act) (w : World) (bs : Nat → Nat) (B : Boxes),
      (∀ i, X i → listedA.getD i true = true) → D.length = m → PendAll P hp ops X S bs L listed a D → ClosedL ops listed → listedA = fin listed D → Rel B0 e S L bs B (virt ops a D) w → a.tmps.size = nt → wpAny P .any ops Q (n + m) listed a w := by
    intro n listedA e S L hend hstep m
    induction m with
    | zero =>
      intro X D listed a w bs B hX hm hp hcl hl hr hsz
      have : D = [] := List.eq_nil_of_length_eq_zero hm
      subst this
      simp only [fin] at hl
      subst hl
      have hq : Region.ready .any ops listedA = [] → Q .normal a w := fun h0 => hQ a w hsz ⟨_, _, _, _, _, hend h0, hr⟩
      cases n with
      | zero =>
        refine ⟨?_, ?_⟩
        · cases hrd : Region.ready .any ops listedA with
          | nil => rfl
          | cons j js =>
            obtain ⟨n', hn, _⟩ := hstep j X [] listedA a w bs B hX (by rw [hrd]; simp) (by simp) (by rw [hrd]; simp) trivial hcl rfl hr hsz
            cases hn
        · apply hq
          cases hrd : Region.ready .any ops listedA with
          | nil => rfl
          | cons j js =>
            obtain ⟨n', hn, _⟩ := hstep j X [] listedA a w bs B hX (by rw [hrd]; simp) (by simp) (by rw [hrd]; simp) trivial hcl rfl hr hsz
            cases hn
      | succ n =>
        refine ⟨hq, fun j hj => ?_⟩
        obtain ⟨n', hn, h⟩ := hstep j X [] listedA a w bs B hX hj (by simp) hj trivial hcl rfl hr hsz
        cases hn
        exact h
    | succ m ih =>
      intro X D listed a w bs B hX hm hp hcl hl hr hsz
      have hne : Region.ready .any ops listed ≠ [] := by
        cases D with
        | nil => cases hm
        | cons p D =>
          obtain ⟨i, v⟩ := p
          intro h0
          have := hp.2.1
          rw [h0] at this; cases this
      rw [show n + (m + 1) = (n + m) + 1 by omega]
      refine ⟨fun h0 => absurd h0 hne, fun j hj => ?_⟩
      by_cases hjD : j ∈ D.map (·.1)
      · obtain ⟨u, D', g1, g2, g3, g4⟩ := pend_front D listed a j hp hjD hj
        obtain ⟨⟨g, ⟨o, ho, hso, hy⟩, q3⟩, q2, q5, q4⟩ := g1
        have hrest := ih X D' (listed.setIfInBounds j true) (a.put (dstOf ops j) u) w bs B hX (by omega) q4 (hcl.set hj) (by rw [hl, ← g4]; rfl) (by rw [← g3] at hr; exact hr) (by rw [put_size]; exact hsz)
        rw [dst_eq ho] at hrest
        unfold wpOp
        simp only [ho]
        rcases hy with ⟨hw, rfl⟩ | ⟨hw, hrun⟩
        · rw [if_neg (by simp [hw])]; exact hrest
        · rw [if_pos hw]
          refine .inl ?_
          unfold Oper.wp
          rw [hrun w ?_]
          · exact hrest
          · intro _
            exact ⟨.inr hr.has, fun _ => hr.inv.mem⟩
      · have hjA : j ∈ Region.ready .any ops listedA := by rw [hl]; exact ready_fin D listed j hj hjD
        obtain ⟨n', hn, h⟩ := hstep j X D listed a w bs B hX hj hjD hjA hp hcl hl hr hsz
        rw [hm] at h
        rw [hn]
        rw [show n' + 1 + m = n' + (m + 1) by omega]
        exact h
  intro n
  induction n with
  | zero =>
    intro listedA G e S L h hLI
    unfold anyK at h
    split at h
    · rename_i hrd
      exact phase 0 listedA e S L (fun _ => h) (fun j X D listed a w bs B _ _ _ hj => by rw [hrd] at hj; cases hj)
    · exact h.elim
  | succ n ih =>
    intro listedA G0 e S L h hLI
    unfold anyK at h
    split at h
    · rename_i hrd
      exact phase (n + 1) listedA e S L (fun _ => h) (fun j X D listed a w bs B _ _ _ hj => by rw [hrd] at hj; cases hj)
    · rename_i r rs hrd
      obtain ⟨G, h⟩ := split_sound h
      cases hfind : (r :: rs).find? (takeable P hp ops listedA G e) with
      | some i =>
        rw [hfind] at h
        simp only at h
        obtain ⟨o0, ho0, h⟩ := atK_leaves h
        intro m X D listed a w bs B hX hm hpd hcl hl hr hsz
        have hi : i ∈ Region.ready .any ops listedA := by rw [hrd]; exact List.mem_of_find?_eq_some hfind
        have htk := List.find?_some hfind
        unfold takeable at htk
        simp only [Bool.and_eq_true, Bool.or_eq_true] at htk
        obtain ⟨htk, hfree⟩ := htk
        obtain ⟨v, o, e', g, ho, hpend, hgh, hloc, ⟨hK, hlv⟩, hr', hkind⟩ := take_ahead h hr (by rw [virt_size]; exact hsz) (by
          rcases htk with ((h | h) | h) | h
          · exact .inl h
          · exact .inr (.inl h)
          · exact .inr (.inr (.inl h))
          · exact .inr (.inr (.inr h)))
        have hns : isStore o.op = false := by
          rcases hkind with hk | hk | hk
          · cases hop : o.op <;> rw [hop] at hk <;> first | rfl | cases hk
          · cases hop : o.op <;> rw [hop] at hk <;> first | rfl | cases hk
          · exact hk.1
        have others : ∀ (f : Nat → Oper → Bool), ((List.range ops.size).all fun j => j == i || listedA.getD j true || match ops.toList[j]? with
            | some oj => oj.after.any (fun e => Region.binds .any e && e.on == i) || f j oj
            | none => true) = true → ∀ j oj, ops[j]? = some oj → j ≠ i → listedA.getD j true = false → (∀ e ∈ oj.after, Region.binds .any e = true → e.on ≠ i) → f j oj = true := by
          intro f hall j oj hoj hji hun hno
          simp only [List.all_eq_true, List.mem_range] at hall
          have h1 := hall j (Array.getElem?_eq_some_iff.1 hoj).1
          rw [Array.getElem?_toList, hoj] at h1
          simp only [Bool.or_eq_true, beq_iff_eq, hji, false_or, hun, Bool.false_eq_true] at h1
          rcases h1 with h1 | h1
          · obtain ⟨ed, hed, hb⟩ := Array.any_eq_true'.1 h1
            simp only [Bool.and_eq_true, beq_iff_eq] at hb
            exact absurd hb.2 (hno ed hed hb.1)
          · exact h1
        have quiet_store : ∀ op : Op, quietQ P true op = true → isStore op = false := by
          intro op hq
          cases op <;> first | rfl | cases hq
        have quiet_or : ∀ {q q2 : Bool} {j : Nat} {op : Op}, (quietQ P q op || (q2 && inB j (behindL ops (List.range ops.size) [i]))) = true → j ≠ i → quietQ P true op = true ∨ Behind ops i j := by
          intro q q2 j op h hji
          rcases Bool.or_eq_true_iff.1 h with h | h
          · exact .inl (quietQ_true h)
          · simp only [Bool.and_eq_true] at h
            exact .inr ((behindL_spec _ _ (fun k hk => .inl (List.mem_singleton.1 hk)) _ (inB_mem h.2)).resolve_left hji)
        have hload : isLoad o.op = true → g = false → ∀ j oj, ops[j]? = some oj → j ≠ i → listedA.getD j true = false → (∀ e ∈ oj.after, Region.binds .any e = true → e.on ≠ i) → isStore oj.op = false ∨ Behind ops i j := by
          intro hld hgf j oj hoj hji hun hno
          rcases hloc hld hgf with hll | hsk
          · unfold locLoad at hll
            rw [Array.getElem?_toList, ho] at hll
            simp only at hll
            cases hop : o.op <;> rw [hop] at hld <;> first | (cases hld; done) | skip
            rw [hop] at hll
            simp only [Bool.and_eq_true] at hll
            have := others (fun _ oj => !isStore oj.op) hll.2 j oj hoj hji hun hno
            exact .inl (by simpa using this)
          · unfold skipAt at hsk
            rw [Array.getElem?_toList, ho] at hsk
            simp only at hsk
            split at hsk
            · split at hsk
              · split at hsk
                · simp only [Bool.and_eq_true, Bool.or_eq_true, hld, Bool.not_true, Bool.false_eq_true, false_or] at hsk
                  have := others (fun _ oj => !isStore oj.op) hsk.2 j oj hoj hji hun hno
                  exact .inl (by simpa using this)
                · exact absurd hsk (by simp)
              · exact absurd hsk (by simp)
            · exact absurd hsk (by simp)
        let X' : Nat → Prop := fun k => X k ∨ k = i
        have hapart : Apart P hp ops X' g listedA i := by
          intro oi hoi
          rw [ho] at hoi; cases hoi
          refine ⟨hns, fun j oj hoj hji hun hno => ⟨Region.free_spec ho hfree j oj hoj hji hun hno, fun hld hgf => hload hld hgf j oj hoj hji hun hno, fun hg => .inl ?_⟩⟩
          have hgl := hgh hg
          unfold ghLoad at hgl
          rw [Array.getElem?_toList, ho] at hgl
          simp only at hgl
          cases hop : o.op <;> rw [hop] at hgl <;> first | (cases hgl; done) | skip
          simp only [Bool.and_eq_true] at hgl
          rcases Bool.or_eq_true_iff.1 (others (fun j oj => (quietQ P (hp 3000000) oj.op || (hp 3000001 && inB j (behindL ops (List.range ops.size) [i]))) || ((hp 3000002 && locStore hp ops oj) || (hp 3000003 && isCA oj.op))) hgl.2 j oj hoj hji hun hno) with hq | hq
          · exact (quiet_or hq hji).imp id .inl
          · refine .inr (.inr ?_)
            unfold softB
            rcases Bool.or_eq_true_iff.1 hq with hq | hq
            · simp only [Bool.and_eq_true] at hq
              rw [hq.2]; rfl
            · rw [hq, Bool.or_true]
        have hcalm : Calm P ops X' i := fun _ _ => .inr (.inr rfl)
        have hX' : ∀ k, X' k → (listedA.setIfInBounds i true).getD k true = true := by
          rintro k (hk | rfl)
          · by_cases hki : i = k
            · subst hki
              rcases Nat.lt_or_ge i listedA.size with h' | h'
              · simp [h']
              · simp [Array.getElem?_eq_none h']
            · rw [getD_set_ne true hki]; exact hX k hk
          · rcases Nat.lt_or_ge k listedA.size with h' | h'
            · simp [h']
            · simp [Array.getElem?_eq_none h']
        rw [hl] at hi hapart
        have := ih (listedA.setIfInBounds i true) G e' S L hK (hLI.step (by rw [← Array.getElem?_toList]; exact ho0) hlv) (m + 1) X' (D ++ [(i, v)]) listed a w bs B hX' (by simp [hm]) (pend_snoc D listed a i v (hpd.more fun _ h => .inl h) ⟨g, hpend, hapart⟩ hi hcalm) hcl (by rw [fin_snoc, hl])
          (by rw [virt_snoc, dst_eq ho]; exact hr') hsz
        rw [show n + 1 + m = n + (m + 1) by omega]
        exact this
      | none =>
        rw [hfind] at h
        simp only at h
        refine phase (n + 1) listedA e S L (fun h0 => by rw [hrd] at h0; cases h0) ?_
        intro j X D listed a w bs B hX hj hjD hjA hpe hcl hl hr hsz
        refine ⟨n, rfl, ?_⟩
        rw [hrd] at hjA
        obtain ⟨o0, ho0, hat⟩ := atK_leaves (allOf_mem h j hjA)
        have ho0' : ops[j]? = some o0 := by rw [← Array.getElem?_toList]; exact ho0
        obtain ⟨o, ho, hcase⟩ := at_sound2 hat hr (by rw [virt_size]; exact hsz)
        have hso := Region.noSelect_spec hsel j o
        have hXj : ¬ X j := fun h => by
          have h1 := hX j h
          have hjA' : j ∈ Region.ready .any ops listedA := by rw [hrd]; exact hjA
          have h2 := (mem_ready.1 hjA').1
          rw [h2] at h1; cases h1
        have hap := pend_apart D listed a j o hpe hj hjD ho hXj
        have hap' : ∀ p ∈ D, ∃ oi, ops[p.1]? = some oi ∧ oi.apart ops o = true := fun p hpm => hap p hpm
        obtain ⟨l1, l2⟩ := looks_virt (fun cs b => hso cs b ho) D a hap'
        rw [l2, l1] at hcase
        obtain rfl : o = o0 := by rw [ho] at ho0'; exact Option.some.inj ho0'
        have hjA2 : j ∈ Region.ready .any ops listedA := by rw [hrd]; exact hjA
        have next : ∀ v w', Go2 B0 S bs L (isStore o.op) (quietQ P true o.op) (fun e' S' L' => anyK P hp nt ops K n (listedA.setIfInBounds j true) G e' S' L' ∧ Leaves hp o e L e' L') ((virt ops a D).put o.dst v) w' →
            wpAny P .any ops Q (n + D.length) (listed.setIfInBounds j true) (a.put o.dst v) w' := by
          rintro v w' ⟨e', S', L', bs', B', ⟨hK, hlv⟩, hr', hext, hq⟩
          refine ih _ G e' S' L' hK (hLI.step ho hlv) D.length X D _ _ w' bs' B' (fun k hk => ?_) rfl (pend_put v ho hXj D listed a hpe hjD hj hext (fun h => h.elim hq fun hs => soft_leaves hLI hs ho hjA2 hlv) hcl) (hcl.set hj) (by rw [fin_put D listed hjD, hl]) ?_ (by rw [put_size]; exact hsz)
          · by_cases hkj : j = k
            · subst hkj; exact absurd hk hXj
            · rw [getD_set_ne true hkj]; exact hX k hk
          · rw [virt_put v D a hap']; exact hr'
        unfold wpOp
        simp only [ho]
        rcases hcase with ⟨hw, hu⟩ | ⟨hw, hu⟩
        · rw [if_pos hw]
          exact .inl (hu.upon a next)
        · rw [if_neg (by simp [hw])]
          exact next undef w hu

end
end Go.Proofs.YtcnkbjipogngaaaDoor.GH

