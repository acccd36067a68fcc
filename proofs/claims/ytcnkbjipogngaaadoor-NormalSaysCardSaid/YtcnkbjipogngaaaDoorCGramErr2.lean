/- parlref2.GramErr says what gram.Check says: the walk. -/
import Derived.Test.YtcnkbjipogngaaaDoorCGramErr
import Derived.Test.YtcnkbjipogngaaaDoorCChk
import Derived.Test.YtcnkbjipogngaaaDoorVAll3
set_option linter.all false
namespace Go.Proofs.YtcnkbjipogngaaaDoor
open Go Go.Proofs.YtcnkbjipogngaaaDoor.GH

theorem between_ro {L : GHeap} {n a b : Int} : RO PP parlref2_GramErr_1.id [.int .i64 n, .int .i64 a, .int .i64 b] L (.bool (decide (a ≤ n ∧ n ≤ b))) := by
  apply parlref2_GramErr_1.go
  unfold parlref2_GramErr_1.t
  refine bcD (fun h => ⟨?_, rfl⟩) fun h => ⟨?_, rfl⟩
  · congr 1
    rw [decide_eq_decide]; exact ⟨fun g => ⟨h, g⟩, fun g => g.2⟩
  · rw [decide_eq_false fun g => h g.1]

theorem KnownS_ro {L : GHeap} {g : Gram} {sg : Sl} {s : Sym} : RO PP parlref2_Known.id [gramV g sg, .agg #[.bool s.term, .int .i64 s.n]] L (.bool (decide (SymOk g.terms g.nons s))) := by
  apply parlref2_Known.go
  have c4 : ∀ m : Int, (0 ≤ s.n → (s.n < m ↔ SymOk g.terms g.nons s)) → parlref2_Known.c4 (fun u L' => u = Value.bool (decide (SymOk g.terms g.nons s)) ∧ L' = L) m s.term s.n L := by
    intro m hm
    apply parlref2_Known.go4
    refine bcD (fun h => ⟨?_, rfl⟩) fun h => ⟨?_, rfl⟩
    · congr 1
      rw [decide_eq_decide]; exact hm h
    · rw [decide_eq_false fun g => h g.1]
  refine bcI (fun ht => c4 _ fun h0 => ?_) fun ht => c4 _ fun h0 => ?_
  · exact ⟨fun h => ⟨h0, fun _ => h, (fun hf => by rw [ht] at hf; cases hf)⟩, fun h => h.2.1 ht⟩
  · exact ⟨fun h => ⟨h0, (fun hf => by rw [ht] at hf; cases hf), fun _ => h⟩, fun h => h.2.2 ht⟩

structure GeM (Lb L : GHeap) (r : Nat) (f : Value → Option Value) : Prop where
  le : Le Lb L
  n0 : L.n0 ≤ r
  lb : Lb.obj r = none
  ob : ∃ o, L.obj r = some o ∧ MapO PP mapT_map_string_int.k o f
theorem GeM.map {Lb L : GHeap} {r : Nat} {f : Value → Option Value} (h : GeM Lb L r f) : mapF PP mapT_map_string_int.k L (some r) f := h.ob
theorem GeM.upd {Lb L : GHeap} {r : Nat} {f f' : Value → Option Value} {o : Obj} (h : GeM Lb L r f) (ho : MapO PP mapT_map_string_int.k o f') : GeM Lb (L.setObj r o) r f' :=
  ⟨⟨⟨h.le.mem, h.le.wr, fun r' o' e => by
    show (if r' = r then some o else L.obj r') = _
    rw [if_neg (fun e' => by rw [e', h.lb] at e; cases e)]; exact h.le.obj r' o' e, h.le.w0, h.le.n0⟩, h.le.free⟩, h.n0, h.lb, ⟨o, by show (if r = r then some o else L.obj r) = _; rw [if_pos rfl], ho⟩⟩

/-- What the map holds. -/
def Seen (seen : List Rule) (f : Value → Option Value) : Prop := ∀ q, Small q → f (.string (keyB q)) = if q ∈ seen then some (.int .i64 1) else none
theorem Seen.put {seen : List Rule} {f : Value → Option Value} (h : Seen seen f) {r : Rule} (hr : Small r) : Seen (seen ++ [r]) (fput f (.string (keyB r)) (.int .i64 1)) := by
  intro q hq
  by_cases he : q = r
  · subst he
    rw [fput_self, if_pos (by simp)]
  · rw [fput_ne (fun e => he (keyB_inj hq hr (by injection e))), h q hq]
    have : q ∈ seen ++ [r] ↔ q ∈ seen := by simp [he]
    by_cases hm : q ∈ seen
    · rw [if_pos hm, if_pos (this.2 hm)]
    · rw [if_neg hm, if_neg (fun h => hm (this.1 h))]

theorem GramErr_spec {L : GHeap} {g : Gram} {sg : Sl} (hs : IsSl rRule L sg g.rules) : ACalls PP parlref2_GramErr.id [gramV g sg] L fun v L' => v = .int .i64 (chk g) ∧ Le L L' := by
  apply parlref2_GramErr.go
  unfold parlref2_GramErr.t
  have bad : ∀ {K : Value → GHeap → Prop}, K (.int .i64 1) L → parlref2_GramErr.c3 K L := fun h => parlref2_GramErr.go3 h
  have one : (¬ (1 ≤ g.terms ∧ g.terms ≤ 8) ∨ ¬ (1 ≤ g.nons ∧ g.nons ≤ 10) ∨ ¬ (0 ≤ g.start ∧ g.start ≤ g.nons - 1)) → chk g = 1 := by
    intro h
    unfold chk
    repeat' (split; try rfl)
    all_goals (exfalso; omega)
  refine between_ro.use ⟨_, rfl, bcN (bcD (fun h1 => ?_) fun h => bad ⟨by rw [one (.inl h)], .refl L⟩)⟩
  refine between_ro.use ⟨_, rfl, bcN (bcD (fun h2 => ?_) fun h => bad ⟨by rw [one (.inr (.inl h))], .refl L⟩)⟩
  have ew : w64 (g.nons - 1) = g.nons - 1 := w64_in (by omega) (by omega)
  rw [ew]
  refine between_ro.use ⟨_, rfl, bcN (bcD (fun h3 => ?_) fun h => bad ⟨by rw [one (.inr (.inr h))], .refl L⟩)⟩
  have hchk : chk g = if g.rules.length > 32 then 2 else chkRules g.terms g.nons [] g.rules := by
    unfold chk
    rw [if_neg (by omega), if_neg (by omega), if_neg (by omega), if_neg (by omega), if_neg (by omega), if_neg (by omega)]
  have hsn := hs.n
  refine bcD (fun h => ⟨by rw [hchk, if_pos (by omega)], .refl L⟩) fun h4 => ?_
  rw [if_neg (by omega)] at hchk
  rw [hchk]
  intro m hm hm0
  have hM0 : GeM L (L.setObj m (.map #[] 0)) m fun _ => none := by
    refine ⟨⟨⟨fun _ _ h => h, fun _ h => h, fun r' o e => ?_, rfl, rfl⟩, fun _ _ h => h⟩, hm0, hm.2, ⟨_, by show (if m = m then _ else _) = _; rw [if_pos rfl], MapO.nil⟩⟩
    show (if r' = m then _ else L.obj r') = _
    rw [if_neg (fun e' => by rw [e', hm.2] at e; cases e)]; exact e
  have key : ∀ i, i ≤ g.rules.length → ∀ (L2 : GHeap) (f : Value → Option Value), GeM L L2 m f → Seen (g.rules.take i) f → chkRules g.terms g.nons [] g.rules = chkRules g.terms g.nons (g.rules.take i) (g.rules.drop i) →
      parlref2_GramErr.c8 (fun v L' => v = .int .i64 (chkRules g.terms g.nons [] g.rules) ∧ Le L L') parlref2_GramErr_1.id [] (some m) sg ((sg.n : Nat) : Int) ((i : Nat) : Int) g.terms g.nons g.start sg L2 := by
    refine down ?_ ?_
    · intro L2 f hM hf he
      apply parlref2_GramErr.go8
      refine bcD (fun h => absurd h (by omega)) fun _ => ⟨?_, hM.le⟩
      rw [he, List.drop_length]; rfl
    · intro i hi ih L2 f hM hf he
      rw [List.drop_eq_getElem_cons hi] at he
      simp only [chkRules] at he
      apply parlref2_GramErr.go8
      refine bcD (fun _ => ?_) fun h => absurd (by omega) h
      refine (hs.mono hM.le.toLeM).get (List.getElem?_eq_getElem hi) fun a cs hK hc => ?_
      obtain ⟨sx, rfl, hx⟩ := hK
      rw [ew]
      refine ⟨_, _, hc, between_ro.use ⟨_, rfl, bcN (bcD (fun g1 => ?_) fun g1 => ⟨?_, hM.le⟩)⟩⟩
      rotate_left
      · rw [he]
        by_cases h0 : g.rules[i].left < 0
        · rw [if_pos h0]
        · rw [if_neg h0, if_pos (by omega)]
      rw [if_neg (by omega), if_neg (by omega)] at he
      have hxn := hx.n
      refine bcD (fun g2 => ⟨by rw [he, if_pos (by omega)], hM.le⟩) fun g2 => ?_
      rw [if_neg (by omega)] at he
      have syms : ∀ j, j ≤ g.rules[i].right.length → (¬ ∃ y ∈ g.rules[i].right.take j, ¬ SymOk g.terms g.nons y) →
          parlref2_GramErr.c15 (fun v L' => v = .int .i64 (chkRules g.terms g.nons [] g.rules) ∧ Le L L') parlref2_GramErr_1.id [] (some m) sg ((sg.n : Nat) : Int) ((i : Nat) : Int) sx ((sx.n : Nat) : Int) ((j : Nat) : Int) g.terms g.nons g.start sg g.rules[i].left sx L2 := by
        refine down ?_ ?_
        · intro hno
          rw [List.take_length] at hno
          rw [if_neg hno] at he
          have hsm : Small g.rules[i] := by
            refine ⟨by omega, fun s hs' => ?_, by omega⟩
            have hk : SymOk g.terms g.nons s := Classical.byContradiction fun h => hno ⟨s, hs', h⟩
            refine ⟨hk.1, ?_⟩
            cases ht : s.term with
            | true => have := hk.2.1 ht; omega
            | false => have := hk.2.2 ht; omega
          have hkey : ∃ l, keyOf PP mapT_map_string_int.k (.string (keyB g.rules[i])) = some l := keyOf_str mapT_map_string_int.str (Nat.le_trans (keyB_size hsm) (Nat.le_trans (show 2 + 3 * g.rules[i].right.length ≤ 14 by omega) (by decide)))
          obtain ⟨o, ho1, ho2⟩ := hM.ob
          have hfk := hf _ hsm
          apply parlref2_GramErr.go15
          refine bcD (fun h => absurd h (by omega)) fun _ => ?_
          refine (key_ro hx hsm).use ⟨_, rfl, ?_⟩
          by_cases hin : g.rules[i] ∈ g.rules.take i
          · rw [if_pos hin] at hfk he
            refine ⟨1, true, look_of mapT_map_string_int.ty (m := some m) hkey hM.map (by rw [hfk]; rfl) (by rw [hfk]; rfl), ?_⟩
            refine upd_of mapT_map_string_int.ty hkey hM.n0 ho1 ho2 fun o' ho' => ?_
            have hM2 := hM.upd ho'
            refine (key_ro ((nobSym hx).mono (nob_le (L := L2.setObj m o'))) hsm).use ⟨_, rfl, ?_⟩
            refine ⟨2, true, look_of mapT_map_string_int.ty (m := some m) hkey hM2.map (by rw [fput_self]; rfl) (by rw [fput_self]; rfl), ?_⟩
            exact bcD (fun _ => ⟨by rw [he], hM2.le⟩) fun h => absurd (by omega) h
          · rw [if_neg hin] at hfk he
            refine ⟨0, false, look_of mapT_map_string_int.ty (m := some m) hkey hM.map (by rw [hfk]; rfl) (by rw [hfk]; rfl), ?_⟩
            refine upd_of mapT_map_string_int.ty hkey hM.n0 ho1 ho2 fun o' ho' => ?_
            have hM2 := hM.upd ho'
            refine (key_ro ((nobSym hx).mono (nob_le (L := L2.setObj m o'))) hsm).use ⟨_, rfl, ?_⟩
            refine ⟨1, true, look_of mapT_map_string_int.ty (m := some m) hkey hM2.map (by rw [fput_self]; rfl) (by rw [fput_self]; rfl), ?_⟩
            refine bcD (fun h => absurd h (by omega)) fun _ => ?_
            rw [add_one (by omega)]
            have e1 : w64 (0 + 1) = 1 := rfl
            rw [e1] at hM2
            refine ih _ _ hM2 ?_ ?_
            · rw [List.take_succ_eq_append_getElem hi]; exact hf.put hsm
            · rw [List.take_succ_eq_append_getElem hi]; exact he
        · intro j hj ihj hno
          apply parlref2_GramErr.go15
          refine bcD (fun _ => ?_) fun h => absurd (by omega) h
          refine hx.get (List.getElem?_eq_getElem hj) fun a2 cs2 hK2 hc2 => ?_
          obtain rfl := hK2
          refine ⟨_, _, hc2, KnownS_ro.use ⟨_, rfl, bcN (bcD (fun hk => ?_) fun hk => ⟨?_, hM.le⟩)⟩⟩
          · rw [add_one (by omega)]
            refine ihj ?_
            rw [List.take_succ_eq_append_getElem hj]
            rintro ⟨y, hy, hny⟩
            rcases List.mem_append.1 hy with hy | hy
            · exact hno ⟨y, hy, hny⟩
            · rw [List.mem_singleton] at hy; subst hy; exact hny hk
          · rw [he, if_pos ⟨_, List.getElem_mem hj, hk⟩]
      exact syms 0 (Nat.zero_le _) (by simp)
  exact key 0 (Nat.zero_le _) _ _ hM0 (fun q _ => by simp) rfl
end Go.Proofs.YtcnkbjipogngaaaDoor
