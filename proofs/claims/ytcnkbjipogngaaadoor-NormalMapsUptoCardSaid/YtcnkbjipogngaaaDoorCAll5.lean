/- Contracts of the program's functions. -/
import Derived.Test.YtcnkbjipogngaaaDoorCAll4
import Derived.Test.YtcnkbjipogngaaaDoorVAll2
import Derived.Test.YtcnkbjipogngaaaDoorLibD
set_option linter.all false
namespace Go.Proofs.YtcnkbjipogngaaaDoor
open Go Go.Proofs.YtcnkbjipogngaaaDoor.GH

theorem symAt_get {r : Rule} {k : Nat} (h : k < r.right.length) : r.right[k]? = some (symAt r k) := by unfold symAt; rw [List.getD_eq_getElem?_getD, List.getElem?_eq_getElem h]; rfl

theorem divide_rules {K : Value → GHeap → Prop} {L0 : GHeap} {g : Gram} {sg sr : Sl} {b : Nat} (hv : Valid g) (hs : IsSl rRule L0 sg g.rules)
    (hnext : ∀ (L1 : GHeap) (srl : Sl), NS L0 L1 b (pvs g sg sr srl nilS (nT g) (nN g)) → IsSl (rS rI) (L1.off (· = b)) sr (restsL g.nons g.rules) → IsSl (rS rBs) (L1.off (· = b)) srl (rulesG g) →
      ACalls PP normal_parts_nulls.id [.pointer (some ⟨b, 0, none⟩)] L1 fun v L => v = .tuple #[] ∧ K (.pointer (some ⟨b, 0, none⟩)) L) :
    ∀ i, i ≤ g.rules.length → ∀ (L1 : GHeap) (srl : Sl), NS L0 L1 b (pvs g sg sr srl nilS (nT g) (nN g)) → IsSl (rS rI) (L1.off (· = b)) sr (restsL g.nons g.rules) → Own L0 (rS rBs) (L1.off (· = b)) srl ((rulesG g).take i) →
      normal_divide.c16 K ⟨b, 0, none⟩ sg ((sg.n : Nat) : Int) ((i : Nat) : Int) L1 := by
  have hn := hs.n
  have hmany := hv.many
  have ht := hv.terms
  have hno := hv.nons
  have heT := extS_le hv g.rules.length
  rw [List.take_length] at heT
  have hT : nT g = g.nons + (extS g.rules : Nat) := rfl
  refine down ?_ ?_
  · intro L1 srl h hr ho
    rw [List.take_of_length_le (by rw [rulesG_len]; omega)] at ho
    apply normal_divide.go16
    exact bcD (fun h => absurd h (by omega)) fun _ => hnext L1 srl h hr ho.sl
  · intro i hi ih L1 srl h hr ho
    have hx := List.getElem?_eq_getElem hi
    have hok := hv.ok _ (List.getElem_mem hi)
    have hrg := restsL_get (c := g.nons) hi
    have hrl : ((rulesG g).take i).length = i := by rw [List.length_take, rulesG_len]; omega
    rw [rulesG_take hi] at ih
    generalize g.rules[i] = r at *
    generalize hrest : restL (g.nons + (extS (g.rules.take i) : Nat)) r.right.length = rest at *
    have hrn : rest.length = r.right.length := by rw [← hrest, restL_len]
    have hsym : ∀ k, k < r.right.length → -1048576 ≤ nT g + (symAt r k).n ∧ nT g + (symAt r k).n ≤ 1048576 := by
      intro k hk
      have hm := List.mem_of_getElem? (symAt_get hk)
      have := hok.1.right _ hm
      obtain ⟨s0, s1, s2⟩ := this
      cases hterm : (symAt r k).term with
      | true => have := s1 hterm; omega
      | false => have := s2 hterm; omega
    have hnum : ∀ {L : GHeap} {sr' : Sl} {k : Nat}, NS L0 L b (pvs g sg sr srl nilS (nT g) (nN g)) → k < r.right.length → RO PP normal_parts_number.id [.pointer (some ⟨b, 0, none⟩), .agg #[.bool (symAt r k).term, .int .i64 (symAt r k).n]] L (.int .i64 (num (nT g) (symAt r k))) :=
      fun h hk => number_ro (h.mem (o := 5) rfl) (hsym _ hk)
    have hr4 := hok.2
    apply normal_divide.go16
    refine bcD (fun _ => ?_) fun h => absurd (by omega) h
    refine hs.get hx fun a cs hK hcc => ?_
    obtain ⟨st, rfl, hst⟩ := hK
    have hstn := hst.n
    refine ⟨_, st, h.leL.toLeM.reads hcc, ?_⟩
    -- what is appended at the end
    have done : ∀ (L2 : GHeap) (sl : Sl) (left k : Int), NS L0 L2 b (pvs g sg sr srl nilS (nT g) (nN g)) → IsSl (rS rI) (L2.off (· = b)) sr (restsL g.nons g.rules) → Own L0 (rS rBs) (L2.off (· = b)) srl ((rulesG g).take i) → Own L0 rBs (L2.off (· = b)) sl (basesL (nT g) rest r) → ¬ w64 (k + 1) < ((st.n : Nat) : Int) →
        normal_divide.c26 K ⟨b, 0, none⟩ ((i : Nat) : Int) sl ((st.n : Nat) : Int) left k sg ((sg.n : Nat) : Int) ((i : Nat) : Int) r.left st L2 := by
      intro L2 sl left k h2 hr2 ho2 hl2 hk
      apply normal_divide.go26
      refine bcD (fun h => absurd h hk) fun _ => ⟨srl, h2.mem (o := 7) rfl, ?_⟩
      refine NS.app (R := rS rBs) (bytes := 24) (m := 1) (ys := [basesL (nT g) rest r]) h2 ho2 (Cells.cons (R := rS rBs) (c := [.slice sl.a sl.n sl.c]) ⟨sl, rfl, hl2.sl⟩ .nil) rfl (by rw [hrl]; omega) fun srl' L3 h3 hle3 ho3 _ => ?_
      obtain ⟨m4, h4, o4⟩ := h3.store (o := 7) (by simp [pvs]) (.slice srl'.a srl'.n srl'.c)
      refine ⟨m4, ?_⟩
      unfold inL
      rw [add_one (by omega)]
      exact ih _ srl' h4 (by rw [o4]; exact hr2.mono hle3) (by rw [o4]; exact ho3)
    have c24 : ∀ (L2 : GHeap) (sl : Sl), normal_divide.c26 K ⟨b, 0, none⟩ ((i : Nat) : Int) sl ((st.n : Nat) : Int) r.left 0 sg ((sg.n : Nat) : Int) ((i : Nat) : Int) r.left st L2 → normal_divide.c24 K ⟨b, 0, none⟩ ((i : Nat) : Int) sl ((st.n : Nat) : Int) sg ((sg.n : Nat) : Int) ((i : Nat) : Int) r.left st L2 := by
      intro L2 sl hc
      apply normal_divide.go24
      unfold normal_divide.t24
      apply normal_divide.go25
      exact hc
    refine bcE (fun h0 => ?_) fun h0 => bcE (fun h1 => ?_) fun h1 => ?_
    · have hz : r.right.length = 0 := by omega
      have hb : basesL (nT g) rest r = [(r.left, [])] := by unfold basesL; rw [if_pos hz]
      refine NS.app (R := rBs) (bytes := 32) (m := 1) (xs := []) (ys := [((r.left, []) : Bs)]) h (.nil _ _ _) (Cells.cons (R := rBs) (c := [.int .i64 r.left, .slice none 0 0]) ⟨nilS, rfl, .nil _ _ _ _⟩ .nil) rfl (by simp) fun sl L3 h3 hle3 ho3 k3 => ?_
      have hk := k3 _ srl _ ho (fun h => absurd h (Nat.lt_irrefl 0))
      exact c24 L3 sl (done L3 sl _ 0 h3 (hr.mono hle3) hk.1 (by rw [hb]; exact ho3) (by rw [hstn, hz]; decide))
    · have hz : r.right.length = 1 := by omega
      have hb : basesL (nT g) rest r = [(r.left, [num (nT g) (symAt r 0)])] := by unfold basesL; rw [if_neg (by omega), if_pos hz]
      refine (hst.mono h.leL.toLeM).get (symAt_get (k := 0) (by omega)) fun a cs hK hcc => ?_
      obtain rfl := hK
      refine ⟨_, _, hcc, (hnum (sr' := sr) h (by omega)).use ⟨_, rfl, ?_⟩⟩
      intro b112 hu
      unfold inL
      obtain ⟨h2, o2, hu2⟩ := h.alloc hu [.int .i64 (num (nT g) (symAt r 0))] 1
      have hsl : IsSl rI ((L1.alloc b112 [.int .i64 (num (nT g) (symAt r 0))] 1).off (· = b)) ⟨some ⟨b112, 0, none⟩, 1, 1⟩ [num (nT g) (symAt r 0)] := by
        rw [o2]
        exact IsSl.of_cells (cs := [.int .i64 (num (nT g) (symAt r 0))]) (Cells.cons (R := rI) (c := [.int .i64 (num (nT g) (symAt r 0))]) rfl .nil) rfl (Nat.le_refl _) alloc_reads
      have hle2 : Le (L1.off (· = b)) ((L1.alloc b112 [.int .i64 (num (nT g) (symAt r 0))] 1).off (· = b)) := by rw [o2]; exact .alloc hu2 _ _
      generalize L1.alloc b112 [.int .i64 (num (nT g) (symAt r 0))] 1 = L2 at *
      refine NS.app (R := rBs) (bytes := 32) (m := 1) (xs := []) (ys := [((r.left, [num (nT g) (symAt r 0)]) : Bs)]) h2 (.nil _ _ _) (Cells.cons (R := rBs) (c := [.int .i64 r.left, .slice (some ⟨b112, 0, none⟩) 1 1]) ⟨⟨some ⟨b112, 0, none⟩, 1, 1⟩, rfl, hsl⟩ .nil) rfl (by simp) fun sl L3 h3 hle3 ho3 k3 => ?_
      have hk := k3 _ srl _ (ho.mono hle2) (fun h => absurd h (Nat.lt_irrefl 0))
      exact c24 L3 sl (done L3 sl _ 0 h3 ((hr.mono hle2.toLeM).mono hle3) hk.1 (by rw [hb]; exact ho3) (by rw [hstn, hz]; decide))
    · have hn2 : 2 ≤ r.right.length := by omega
      have hb : basesL (nT g) rest r = twos (nT g) rest r (r.right.length - 1) := by unfold basesL; rw [if_neg (by omega), if_neg (by omega)]
      have hrb : ∀ k, k + 2 < r.right.length → rest[k + 1]? = some (rest.getD (k + 1) 0) := fun k hk => by rw [List.getD_eq_getElem?_getD, List.getElem?_eq_getElem (by omega)]; rfl
      have loop : ∀ m k, r.right.length - 1 - k = m → k ≤ r.right.length - 1 → ∀ (L2 : GHeap) (sl : Sl), NS L0 L2 b (pvs g sg sr srl nilS (nT g) (nN g)) → LeM (L1.off (· = b)) (L2.off (· = b)) → IsSl (rS rI) (L2.off (· = b)) sr (restsL g.nons g.rules) → Own L0 (rS rBs) (L2.off (· = b)) srl ((rulesG g).take i) → Own L0 rBs (L2.off (· = b)) sl (twos (nT g) rest r k) → Sep sl srl →
          normal_divide.c26 K ⟨b, 0, none⟩ ((i : Nat) : Int) sl ((st.n : Nat) : Int) (leftAt (nT g) rest r k) ((k : Nat) : Int) sg ((sg.n : Nat) : Int) ((i : Nat) : Int) r.left st L2 := by
        intro m
        induction m with
        | zero =>
          intro k hm hk L2 sl h2 hle2 hr2 ho2 hl2 _
          have ek : k = r.right.length - 1 := by omega
          exact done L2 sl _ _ h2 hr2 ho2 (by rw [hb, ← ek]; exact hl2) (by rw [add_one (by omega)]; omega)
        | succ m ihm =>
          intro k hm hk L2 sl h2 hle2 hr2 ho2 hl2 hsep
          have hst2 : IsSl rSym L2 st r.right := hst.mono h2.leL.toLeM
          have hrow : (restsL g.nons g.rules)[i]? = some rest := hrg
          have e1 : w64 (((k : Nat) : Int) + 1) = ((k + 1 : Nat) : Int) := by rw [w64_in (by omega) (by omega)]; omega
          have e2 : w64 (((k : Nat) : Int) + 2) = ((k + 2 : Nat) : Int) := by rw [w64_in (by omega) (by omega)]; omega
          have e3 : w64 (((st.n : Nat) : Int) - 1) = ((r.right.length - 1 : Nat) : Int) := by rw [w64_in (by omega) (by omega)]; omega
          have c31 : normal_divide.c31 K ⟨b, 0, none⟩ ((i : Nat) : Int) sl ((st.n : Nat) : Int) (leftAt (nT g) rest r k) ((k : Nat) : Int) (restAt (nT g) rest r k) sg ((sg.n : Nat) : Int) ((i : Nat) : Int) r.left st L2 := by
            apply normal_divide.go31
            refine hst2.get (symAt_get (k := k) (by omega)) fun a cs hK hcc => ?_
            obtain rfl := hK
            refine ⟨_, _, hcc, (hnum (sr' := sr) h2 (by omega)).use ⟨_, rfl, ?_⟩⟩
            intro b157 hu
            unfold inL
            generalize hx1 : num (nT g) (symAt r k) = x1
            generalize hx2 : restAt (nT g) rest r k = x2
            obtain ⟨h3, o3, hu3⟩ := h2.alloc hu [.int .i64 x1, .int .i64 x2] 2
            have hsl : IsSl rI ((L2.alloc b157 [.int .i64 x1, .int .i64 x2] 2).off (· = b)) ⟨some ⟨b157, 0, none⟩, 2, 2⟩ [x1, x2] := by
              rw [o3]
              exact IsSl.of_cells (cs := [.int .i64 x1, .int .i64 x2]) (Cells.cons (R := rI) (c := [.int .i64 x1]) rfl (Cells.cons (R := rI) (c := [.int .i64 x2]) rfl .nil)) rfl (Nat.le_refl _) alloc_reads
            have hle3 : Le (L2.off (· = b)) ((L2.alloc b157 [.int .i64 x1, .int .i64 x2] 2).off (· = b)) := by rw [o3]; exact .alloc hu3 _ _
            generalize L2.alloc b157 [.int .i64 x1, .int .i64 x2] 2 = L3 at *
            have htl : (twos (nT g) rest r k).length = k := by simp [twos]
            refine NS.app (R := rBs) (bytes := 32) (m := 1) (ys := [((leftAt (nT g) rest r k, [x1, x2]) : Bs)]) h3 (hl2.mono hle3) (Cells.cons (R := rBs) (c := [.int .i64 (leftAt (nT g) rest r k), .slice (some ⟨b157, 0, none⟩) 2 2]) ⟨⟨some ⟨b157, 0, none⟩, 2, 2⟩, rfl, hsl⟩ .nil) rfl (by rw [htl]; omega) fun sl' L4 h4 hle4 ho4 k4 => ?_
            have hk4 := k4 _ srl _ (ho2.mono hle3) hsep
            apply normal_divide.go32
            unfold normal_divide.t32
            apply normal_divide.go27
            unfold normal_divide.t27
            rw [e1]
            have := ihm (k + 1) (by omega) (by omega) L4 sl' h4 ((hle2.trans hle3.toLeM).trans hle4) ((hr2.mono hle3.toLeM).mono hle4) hk4.1 (by rw [twos_succ, hx1, hx2]; exact ho4) hk4.2
            have el : leftAt (nT g) rest r (k + 1) = x2 := by unfold leftAt; rw [if_neg (by omega), Nat.add_sub_cancel, hx2]
            rw [el] at this
            exact this
          apply normal_divide.go26
          refine bcD (fun _ => ?_) fun h => absurd (by rw [e1]; omega) h
          rw [e3]
          refine hst2.get (symAt_get (k := r.right.length - 1) (by omega)) fun a cs hK hcc => ?_
          obtain rfl := hK
          refine ⟨_, _, hcc, (hnum (sr' := sr) h2 (by omega)).use ⟨_, rfl, ?_⟩⟩
          rw [e2]
          refine bcD (fun hlt => ⟨sr, h2.mem (o := 4) rfl, ?_⟩) fun hlt => ?_
          · have hlt' : k + 2 < r.right.length := by omega
            have er : restAt (nT g) rest r k = rest.getD (k + 1) 0 := by unfold restAt; rw [if_pos hlt']
            rw [er] at c31
            refine (hr2.mono off_le).get hrow fun a cs hK hcc => ?_
            obtain ⟨sx, rfl, hsx⟩ := hK
            refine ⟨sx, reads_one hcc, ?_⟩
            rw [e1]
            refine hsx.get (hrb k hlt') fun a cs hK hcc => ?_
            obtain rfl := hK
            exact ⟨_, reads_one hcc, c31⟩
          · have er : restAt (nT g) rest r k = num (nT g) (symAt r (r.right.length - 1)) := by unfold restAt; rw [if_neg (by omega)]
            rw [er] at c31
            exact c31
      refine c24 L1 nilS ?_
      have := loop _ 0 rfl (by omega) L1 nilS h (.refl _) hr ho (.nil _ _ _) (fun h => absurd h (Nat.lt_irrefl 0))
      exact this
end Go.Proofs.YtcnkbjipogngaaaDoor

namespace Go.Proofs.YtcnkbjipogngaaaDoor
open Go Go.Proofs.YtcnkbjipogngaaaDoor.GH

theorem IndexFuncI_ro {L : GHeap} {s : Sl} {xs : List Int} {f : FuncId} {cap : List Value} {p : Int → Bool} (hs : IsSl rI L s xs) (hb : xs.length ≤ 1048576) (hf : ∀ x ∈ xs, RO PP f ([.int .i64 x] ++ cap) L (.bool (p x))) :
    ∃ k : Int, (0 ≤ k ↔ ∃ x ∈ xs, p x = true) ∧ RO PP sl_IndexFunc_int_int.id [.slice s.a s.n s.c, .func (.func f) #[] (List.toArray cap)] L (.int .i64 k) := by
  have key : ∀ (d i : Nat), xs.length - i = d → i ≤ xs.length → ∃ k : Int, (0 ≤ k ↔ ∃ x ∈ xs.drop i, p x = true) ∧ sl_IndexFunc_int_int.c2 (fun u L' => u = Value.int .i64 k ∧ L' = L) s f cap ((s.n : Nat) : Int) ((i : Nat) : Int) L := by
    intro d
    induction d with
    | zero =>
      intro i hd hi
      refine ⟨-1, ⟨fun h => by omega, ?_⟩, ?_⟩
      · rw [List.drop_eq_nil_of_le (by omega)]
        rintro ⟨x, hx, _⟩; cases hx
      · apply sl_IndexFunc_int_int.go2
        exact bcD (fun h => absurd h (by rw [hs.n]; omega)) fun _ => ⟨rfl, rfl⟩
    | succ d ih =>
      intro i hd hi
      have hlt : i < xs.length := by omega
      rw [List.drop_eq_getElem_cons hlt]
      obtain ⟨k, h1, h2⟩ := ih (i + 1) (by omega) (by omega)
      have step : ∀ u : Int, (p xs[i] = true → u = (i : Nat)) → (p xs[i] = false → u = k) → sl_IndexFunc_int_int.c2 (fun u' L' => u' = Value.int .i64 u ∧ L' = L) s f cap ((s.n : Nat) : Int) ((i : Nat) : Int) L := by
        intro u g1 g2
        apply sl_IndexFunc_int_int.go2
        refine bcD (fun _ => ?_) fun h => absurd (by rw [hs.n]; omega) h
        refine hs.get (List.getElem?_eq_getElem hlt) fun a cs hK hc => ?_
        obtain rfl := hK
        refine ⟨_, reads_one hc, (hf _ (List.getElem_mem hlt)).use ⟨_, rfl, bcI (fun hp => ⟨by rw [g1 hp], rfl⟩) fun hp => ?_⟩⟩
        rw [add_one (by omega), g2 hp]
        exact h2
      cases hp : p xs[i] with
      | true => exact ⟨i, ⟨fun _ => ⟨_, List.mem_cons_self .., hp⟩, fun _ => by omega⟩, step _ (fun _ => rfl) fun h => by rw [hp] at h; cases h⟩
      | false =>
        refine ⟨k, ?_, step _ (fun h => by rw [hp] at h; cases h) fun _ => rfl⟩
        rw [h1]
        constructor
        · rintro ⟨x, hx, hpx⟩; exact ⟨x, List.mem_cons_of_mem _ hx, hpx⟩
        · rintro ⟨x, hx, hpx⟩
          rcases List.mem_cons.1 hx with rfl | hx
          · rw [hp] at hpx; cases hpx
          · exact ⟨x, hx, hpx⟩
  obtain ⟨k, h1, h2⟩ := key xs.length 0 rfl (Nat.zero_le _)
  exact ⟨k, by simpa using h1, sl_IndexFunc_int_int.go h2⟩

theorem ContainsFuncI_ro {L : GHeap} {s : Sl} {xs : List Int} {f : FuncId} {cap : List Value} {p : Int → Bool} (hs : IsSl rI L s xs) (hb : xs.length ≤ 1048576) (hf : ∀ x ∈ xs, RO PP f ([.int .i64 x] ++ cap) L (.bool (p x))) :
    RO PP sl_ContainsFunc_int_int.id [.slice s.a s.n s.c, .func (.func f) #[] (List.toArray cap)] L (.bool (xs.any p)) := by
  obtain ⟨k, h1, h2⟩ := IndexFuncI_ro hs hb hf
  apply sl_ContainsFunc_int_int.go
  refine h2.use ⟨_, rfl, ?_, rfl⟩
  congr 1
  rw [Bool.eq_iff_iff, decide_eq_true_iff, List.any_eq_true]
  exact h1
end Go.Proofs.YtcnkbjipogngaaaDoor

