/- Contracts of the program's functions. -/
import Derived.Test.YtcnkbjipogngaaaDoorVAll5
import Derived.Test.YtcnkbjipogngaaaDoorCAll0
import Derived.Test.YtcnkbjipogngaaaDoorLibD
import Derived.Test.YtcnkbjipogngaaaDoorCAll1
import Derived.Test.YtcnkbjipogngaaaDoorVAll4
set_option linter.all false
namespace Go.Proofs.YtcnkbjipogngaaaDoor
open Go Go.Proofs.YtcnkbjipogngaaaDoor.GH

def digB (n : Int) : ByteArray := (ByteArray.mk #[48, 49, 50, 51, 52, 53, 54, 55, 56, 57, 97, 98, 99, 100, 101, 102, 103, 104, 105, 106, 107, 108, 109, 110, 111, 112, 113, 114, 115, 116, 117, 118, 119, 120, 121, 122]).extract (Int.toNat n) (Int.toNat n + 1)
def digL (n : Int) : List UInt8 := [UInt8.ofNat (48 + n.toNat)]

theorem digB_list {n : Int} (h0 : 0 ≤ n) (h1 : n < 10) : (digB n).data.toList = digL n := by
  obtain ⟨k, rfl⟩ : ∃ k : Nat, n = (k : Int) := ⟨n.toNat, by omega⟩
  have hk : k < 10 := by omega
  match k, hk with
  | 0, _ => rfl
  | 1, _ => rfl
  | 2, _ => rfl
  | 3, _ => rfl
  | 4, _ => rfl
  | 5, _ => rfl
  | 6, _ => rfl
  | 7, _ => rfl
  | 8, _ => rfl
  | 9, _ => rfl
theorem digB_size {n : Int} (h0 : 0 ≤ n) (h1 : n < 10) : (digB n).size = 1 := by
  have := congrArg List.length (digB_list h0 h1)
  rw [Array.length_toList] at this
  exact this

theorem small_ro {L : GHeap} {n : Int} (h0 : 0 ≤ n) (h1 : n < 10) : RO PP internal_strconv_small.id [.int .i64 n] L (.string (digB n)) := by
  apply internal_strconv_small.go
  unfold internal_strconv_small.t
  have e : w64 (n + 1) = n + 1 := w64_in (by omega) (by omega)
  rw [e]
  refine bcD (fun _ => ⟨⟨by omega, ?_⟩, ⟨by omega, by omega⟩, ?_, rfl⟩) fun h => absurd h1 h
  · show n + 1 ≤ ((36 : Nat) : Int); omega
  · unfold digB
    have : Int.toNat (n + 1) = Int.toNat n + 1 := by omega
    rw [this]

theorem Itoa_ro {L : GHeap} {n : Int} (h0 : 0 ≤ n) (h1 : n < 10) : RO PP strconv_Itoa.id [.int .i64 n] L (.string (digB n)) := by
  apply strconv_Itoa.go
  unfold strconv_Itoa.t
  have h2 : RO PP internal_strconv_FormatInt.id [.int .i64 n, .int .i64 10] L (.string (digB n)) := by
    apply internal_strconv_FormatInt.go
    unfold internal_strconv_FormatInt.t
    refine bcT (by simp) (bcD (fun _ => bcD (fun _ => (small_ro h0 h1).use ⟨_, rfl, rfl, rfl⟩) fun h => absurd (by omega) h) fun h => absurd h0 h)
  have h3 : RO PP internal_strconv_Itoa.id [.int .i64 n] L (.string (digB n)) := by
    apply internal_strconv_Itoa.go
    unfold internal_strconv_Itoa.t
    exact h2.use ⟨_, rfl, rfl, rfl⟩
  exact h3.use ⟨_, rfl, rfl, rfl⟩

def keyS (out : ByteArray) (s : Sym) : ByteArray := (if s.term = true then out ++ ByteArray.mk #[116] else out) ++ (digB s.n ++ ByteArray.mk #[44])
def keyB (r : Rule) : ByteArray := r.right.foldl keyS (digB r.left ++ ByteArray.mk #[58])
def symL (s : Sym) : List UInt8 := (if s.term = true then [116] else []) ++ (digL s.n ++ [44])

theorem keyS_list {out : ByteArray} {s : Sym} (h0 : 0 ≤ s.n) (h1 : s.n < 10) : (keyS out s).data.toList = out.data.toList ++ symL s := by
  unfold keyS symL
  split <;> simp [ByteArray.data_append, digB_list h0 h1]
theorem keyF_list : ∀ (ss : List Sym) (out : ByteArray), (∀ s ∈ ss, 0 ≤ s.n ∧ s.n < 10) → (ss.foldl keyS out).data.toList = out.data.toList ++ ss.flatMap symL
  | [], out, _ => by simp
  | s :: ss, out, h => by
    obtain ⟨h0, h1⟩ := h s (List.mem_cons_self ..)
    rw [List.foldl_cons, keyF_list ss _ fun x hx => h x (List.mem_cons_of_mem _ hx), keyS_list h0 h1, List.flatMap_cons, List.append_assoc]

structure Small (r : Rule) : Prop where
  left : 0 ≤ r.left ∧ r.left < 10
  right : ∀ s ∈ r.right, 0 ≤ s.n ∧ s.n < 10
  len : r.right.length ≤ 4

theorem keyB_list {r : Rule} (h : Small r) : (keyB r).data.toList = digL r.left ++ [58] ++ r.right.flatMap symL := by
  unfold keyB
  rw [keyF_list _ _ h.right]
  simp [ByteArray.data_append, digB_list h.left.1 h.left.2]

theorem dig_inj {m n : Int} (h0 : 0 ≤ m ∧ m < 10) (h1 : 0 ≤ n ∧ n < 10) (h : UInt8.ofNat (48 + m.toNat) = UInt8.ofNat (48 + n.toNat)) : m = n := by
  have := congrArg UInt8.toNat h
  simp only [UInt8.toNat_ofNat'] at this
  omega
theorem dig_ne {m : Int} (h0 : 0 ≤ m ∧ m < 10) : UInt8.ofNat (48 + m.toNat) ≠ 116 := by
  intro h
  have := congrArg UInt8.toNat h
  simp only [UInt8.toNat_ofNat'] at this
  have e : UInt8.toNat 116 = 116 := rfl
  omega

theorem syms_inj : ∀ {xs ys : List Sym}, (∀ s ∈ xs, 0 ≤ s.n ∧ s.n < 10) → (∀ s ∈ ys, 0 ≤ s.n ∧ s.n < 10) → xs.flatMap symL = ys.flatMap symL → xs = ys
  | [], [], _, _, _ => rfl
  | [], y :: ys, _, _, h => by simp [symL, digL] at h
  | x :: xs, [], _, _, h => by simp [symL, digL] at h
  | ⟨xt, xn⟩ :: xs, ⟨yt, yn⟩ :: ys, hx, hy, h => by
    have x0 := hx _ (List.mem_cons_self ..)
    have y0 := hy _ (List.mem_cons_self ..)
    have rest := syms_inj (xs := xs) (ys := ys) (fun s hs => hx s (List.mem_cons_of_mem _ hs)) (fun s hs => hy s (List.mem_cons_of_mem _ hs))
    cases xt <;> cases yt <;> simp only [List.flatMap_cons, symL, digL, if_true, List.singleton_append, List.nil_append, List.cons_append, List.cons.injEq, Bool.false_eq_true, if_false] at h
    · obtain ⟨a, _, c⟩ := h
      have hd : xn = yn := dig_inj x0 y0 a
      rw [hd, rest c]
    · exact absurd h.1 (dig_ne x0)
    · exact absurd h.1.symm (dig_ne y0)
    · obtain ⟨_, a, _, c⟩ := h
      have hd : xn = yn := dig_inj x0 y0 a
      rw [hd, rest c]

theorem keyB_inj {r q : Rule} (h : Small r) (h' : Small q) (e : keyB r = keyB q) : r = q := by
  have e2 : (keyB r).data.toList = (keyB q).data.toList := by rw [e]
  rw [keyB_list h, keyB_list h'] at e2
  simp only [digL, List.singleton_append, List.cons_append, List.nil_append, List.cons.injEq] at e2
  obtain ⟨a, _, c⟩ := e2
  obtain ⟨l, rr⟩ := r
  obtain ⟨l', rr'⟩ := q
  have := dig_inj h.left h'.left a
  have := syms_inj h.right h'.right c
  simp only at *
  subst_vars; rfl

theorem symL_len (s : Sym) : (symL s).length ≤ 3 := by unfold symL digL; split <;> simp
theorem syms_len : ∀ ss : List Sym, (ss.flatMap symL).length ≤ 3 * ss.length
  | [] => by simp
  | s :: ss => by
    have a := symL_len s
    have b := syms_len ss
    simp only [List.flatMap_cons, List.length_append, List.length_cons]; omega

theorem keyB_size {r : Rule} (h : Small r) : (keyB r).size ≤ 2 + 3 * r.right.length := by
  have := congrArg List.length (keyB_list h)
  rw [Array.length_toList] at this
  have e : (keyB r).size = (keyB r).data.size := rfl
  have := syms_len r.right
  simp only [digL, List.length_append, List.length_singleton] at *
  omega

theorem key_ro {L : GHeap} {sr : Sl} {r : Rule} (hr : IsSl rSym L sr r.right) (h : Small r) : RO PP parlref2_key.id [.agg #[.int .i64 r.left, .slice sr.a sr.n sr.c]] L (.string (keyB r)) := by
  have hmax : ((9223372036854775807 : Nat) : Int) = IntKind.i64.max := by rfl
  apply parlref2_key.go
  unfold parlref2_key.t
  refine (Itoa_ro h.left.1 h.left.2).use ⟨_, rfl, ?_, ?_⟩
  · rw [digB_size h.left.1 h.left.2, ← hmax]
    show ((1 + 1 : Nat) : Int) ≤ _
    omega
  have key : ∀ i, i ≤ r.right.length → parlref2_key.c3 (fun u L' => u = Value.string (keyB r) ∧ L' = L) ((r.right.take i).foldl keyS (digB r.left ++ ByteArray.mk #[58])) sr ((sr.n : Nat) : Int) ((i : Nat) : Int) L := by
    refine down ?_ ?_
    · rw [List.take_length]
      apply parlref2_key.go3
      exact bcD (fun h => absurd h (by rw [hr.n]; omega)) fun _ => ⟨rfl, rfl⟩
    · intro i hi ih
      rw [List.take_succ_eq_append_getElem hi, List.foldl_append, List.foldl_cons, List.foldl_nil] at ih
      obtain ⟨y0, y1⟩ := h.right _ (List.getElem_mem hi)
      have hsz := keyB_size (r := ⟨r.left, r.right.take i⟩) ⟨h.left, fun s hs => h.right s (List.mem_of_mem_take hs), by have := h.len; simp only [List.length_take]; omega⟩
      have hl4 := h.len
      have hsz : ((r.right.take i).foldl keyS (digB r.left ++ ByteArray.mk #[58])).size ≤ 2 + 3 * (r.right.take i).length := hsz
      rw [List.length_take] at hsz
      generalize (r.right.take i).foldl keyS (digB r.left ++ ByteArray.mk #[58]) = out at ih hsz ⊢
      apply parlref2_key.go3
      refine bcD (fun _ => ?_) fun h => absurd (by rw [hr.n]; omega) h
      refine hr.get (List.getElem?_eq_getElem hi) fun a cs hK hc => ?_
      obtain rfl := hK
      have c7 : ∀ o : ByteArray, o.size ≤ 100 → keyS out r.right[i] = o ++ (digB r.right[i].n ++ ByteArray.mk #[44]) → parlref2_key.c7 (fun u L' => u = Value.string (keyB r) ∧ L' = L) o sr ((sr.n : Nat) : Int) ((i : Nat) : Int) r.right[i].term r.right[i].n L := by
        intro o ho e
        have hds := digB_size y0 y1
        apply parlref2_key.go7
        refine (Itoa_ro y0 y1).use ⟨_, rfl, ?_, ?_, ?_⟩
        · rw [hds, ← hmax]
          show ((1 + 1 : Nat) : Int) ≤ _
          omega
        · rw [ByteArray.size_append, hds, ← hmax]
          show ((o.size + (1 + 1) : Nat) : Int) ≤ _
          omega
        · apply parlref2_key.go8
          unfold parlref2_key.t8
          rw [add_one (by omega), ← e]
          exact ih
      refine ⟨_, _, hc, ?_⟩
      have e116 : (ByteArray.mk #[116]).size = 1 := rfl
      refine bcI (fun ht => ⟨?_, c7 _ ?_ ?_⟩) fun ht => c7 _ (by omega) ?_
      · rw [e116, ← hmax]; omega
      · rw [ByteArray.size_append, e116]; omega
      · unfold keyS; rw [if_pos ht]
      · unfold keyS; rw [if_neg (by simpa using ht)]
  exact key 0 (Nat.zero_le _)
end Go.Proofs.YtcnkbjipogngaaaDoor

namespace Go.Proofs.YtcnkbjipogngaaaDoor
open Go Go.Proofs.YtcnkbjipogngaaaDoor.GH

theorem between_ro {L : GHeap} {n a b : Int} : RO PP parlref2_GramErr_1.id [.int .i64 n, .int .i64 a, .int .i64 b] L (.bool (decide (a ≤ n ∧ n ≤ b))) := by
  apply parlref2_GramErr_1.go
  unfold parlref2_GramErr_1.t
  refine bcD (fun h => ⟨?_, rfl⟩) fun h => ⟨?_, rfl⟩
  · congr 1
    rw [decide_eq_decide]; exact ⟨fun g => ⟨h, g⟩, fun g => g.2⟩
  · rw [decide_eq_false fun g => h g.1]

theorem KnownS_ro {L : GHeap} {g : Gram} {sg : Sl} {s : Sym} : RO PP parlref2_Known.id [gramV g sg, .agg #[.bool s.term, .int .i64 s.n]] L (.bool (decide (SymOk g.terms g.nons s))) := by
  apply parlref2_Known.go
  have c4 : ∀ m : Int, (0 ≤ s.n → (s.n < m ↔ SymOk g.terms g.nons s)) → parlref2_Known.c4 (fun u L' => u = Value.bool (decide (SymOk g.terms g.nons s)) ∧ L' = L) m s.term s.n L := by
    intro m hm
    apply parlref2_Known.go4
    refine bcD (fun h => ⟨?_, rfl⟩) fun h => ⟨?_, rfl⟩
    · congr 1
      rw [decide_eq_decide]; exact hm h
    · rw [decide_eq_false fun g => h g.1]
  refine bcI (fun ht => c4 _ fun h0 => ?_) fun ht => c4 _ fun h0 => ?_
  · exact ⟨fun h => ⟨h0, fun _ => h, (fun hf => by rw [ht] at hf; cases hf)⟩, fun h => h.2.1 ht⟩
  · exact ⟨fun h => ⟨h0, (fun hf => by rw [ht] at hf; cases hf), fun _ => h⟩, fun h => h.2.2 ht⟩

structure GeM (Lb L : GHeap) (r : Nat) (f : Value → Option Value) : Prop where
  le : Le Lb L
  n0 : L.n0 ≤ r
  lb : Lb.obj r = none
  ob : ∃ o, L.obj r = some o ∧ MapO PP mapT_map_string_int.k o f
theorem GeM.map {Lb L : GHeap} {r : Nat} {f : Value → Option Value} (h : GeM Lb L r f) : mapF PP mapT_map_string_int.k L (some r) f := h.ob
theorem GeM.upd {Lb L : GHeap} {r : Nat} {f f' : Value → Option Value} {o : Obj} (h : GeM Lb L r f) (ho : MapO PP mapT_map_string_int.k o f') : GeM Lb (L.setObj r o) r f' :=
  ⟨⟨⟨h.le.mem, h.le.wr, fun r' o' e => by
    show (if r' = r then some o else L.obj r') = _
    rw [if_neg (fun e' => by rw [e', h.lb] at e; cases e)]; exact h.le.obj r' o' e, h.le.w0, h.le.n0⟩, h.le.free⟩, h.n0, h.lb, ⟨o, by show (if r = r then some o else L.obj r) = _; rw [if_pos rfl], ho⟩⟩

def Seen (seen : List Rule) (f : Value → Option Value) : Prop := ∀ q, Small q → f (.string (keyB q)) = if q ∈ seen then some (.int .i64 1) else none
theorem Seen.put {seen : List Rule} {f : Value → Option Value} (h : Seen seen f) {r : Rule} (hr : Small r) : Seen (seen ++ [r]) (fput f (.string (keyB r)) (.int .i64 1)) := by
  intro q hq
  by_cases he : q = r
  · subst he
    rw [fput_self, if_pos (by simp)]
  · rw [fput_ne (fun e => he (keyB_inj hq hr (by injection e))), h q hq]
    have : q ∈ seen ++ [r] ↔ q ∈ seen := by simp [he]
    by_cases hm : q ∈ seen
    · rw [if_pos hm, if_pos (this.2 hm)]
    · rw [if_neg hm, if_neg (fun h => hm (this.1 h))]

theorem GramErr_spec {L : GHeap} {g : Gram} {sg : Sl} (hs : IsSl rRule L sg g.rules) : ACalls PP parlref2_GramErr.id [gramV g sg] L fun v L' => v = .int .i64 (chk g) ∧ Le L L' := by
  apply parlref2_GramErr.go
  unfold parlref2_GramErr.t
  have bad : ∀ {K : Value → GHeap → Prop}, K (.int .i64 1) L → parlref2_GramErr.c3 K L := fun h => parlref2_GramErr.go3 h
  have one : (¬ (1 ≤ g.terms ∧ g.terms ≤ 8) ∨ ¬ (1 ≤ g.nons ∧ g.nons ≤ 10) ∨ ¬ (0 ≤ g.start ∧ g.start ≤ g.nons - 1)) → chk g = 1 := by
    intro h
    unfold chk
    repeat' (split; try rfl)
    all_goals (exfalso; omega)
  refine between_ro.use ⟨_, rfl, bcN (bcD (fun h1 => ?_) fun h => bad ⟨by rw [one (.inl h)], .refl L⟩)⟩
  refine between_ro.use ⟨_, rfl, bcN (bcD (fun h2 => ?_) fun h => bad ⟨by rw [one (.inr (.inl h))], .refl L⟩)⟩
  have ew : w64 (g.nons - 1) = g.nons - 1 := w64_in (by omega) (by omega)
  rw [ew]
  refine between_ro.use ⟨_, rfl, bcN (bcD (fun h3 => ?_) fun h => bad ⟨by rw [one (.inr (.inr h))], .refl L⟩)⟩
  have hchk : chk g = if g.rules.length > 32 then 2 else chkRules g.terms g.nons [] g.rules := by
    unfold chk
    rw [if_neg (by omega), if_neg (by omega), if_neg (by omega), if_neg (by omega), if_neg (by omega), if_neg (by omega)]
  have hsn := hs.n
  refine bcD (fun h => ⟨by rw [hchk, if_pos (by omega)], .refl L⟩) fun h4 => ?_
  rw [if_neg (by omega)] at hchk
  rw [hchk]
  intro m hm hm0
  have hM0 : GeM L (L.setObj m (.map #[] 0)) m fun _ => none := by
    refine ⟨⟨⟨fun _ _ h => h, fun _ h => h, fun r' o e => ?_, rfl, rfl⟩, fun _ _ h => h⟩, hm0, hm.2, ⟨_, by show (if m = m then _ else _) = _; rw [if_pos rfl], MapO.nil⟩⟩
    show (if r' = m then _ else L.obj r') = _
    rw [if_neg (fun e' => by rw [e', hm.2] at e; cases e)]; exact e
  have key : ∀ i, i ≤ g.rules.length → ∀ (L2 : GHeap) (f : Value → Option Value), GeM L L2 m f → Seen (g.rules.take i) f → chkRules g.terms g.nons [] g.rules = chkRules g.terms g.nons (g.rules.take i) (g.rules.drop i) →
      parlref2_GramErr.c8 (fun v L' => v = .int .i64 (chkRules g.terms g.nons [] g.rules) ∧ Le L L') parlref2_GramErr_1.id [] (some m) sg ((sg.n : Nat) : Int) ((i : Nat) : Int) g.terms g.nons g.start sg L2 := by
    refine down ?_ ?_
    · intro L2 f hM hf he
      apply parlref2_GramErr.go8
      refine bcD (fun h => absurd h (by omega)) fun _ => ⟨?_, hM.le⟩
      rw [he, List.drop_length]; rfl
    · intro i hi ih L2 f hM hf he
      rw [List.drop_eq_getElem_cons hi] at he
      simp only [chkRules] at he
      apply parlref2_GramErr.go8
      refine bcD (fun _ => ?_) fun h => absurd (by omega) h
      refine (hs.mono hM.le.toLeM).get (List.getElem?_eq_getElem hi) fun a cs hK hc => ?_
      obtain ⟨sx, rfl, hx⟩ := hK
      rw [ew]
      refine ⟨_, _, hc, between_ro.use ⟨_, rfl, bcN (bcD (fun g1 => ?_) fun g1 => ⟨?_, hM.le⟩)⟩⟩
      rotate_left
      · rw [he]
        by_cases h0 : g.rules[i].left < 0
        · rw [if_pos h0]
        · rw [if_neg h0, if_pos (by omega)]
      rw [if_neg (by omega), if_neg (by omega)] at he
      have hxn := hx.n
      refine bcD (fun g2 => ⟨by rw [he, if_pos (by omega)], hM.le⟩) fun g2 => ?_
      rw [if_neg (by omega)] at he
      have syms : ∀ j, j ≤ g.rules[i].right.length → (¬ ∃ y ∈ g.rules[i].right.take j, ¬ SymOk g.terms g.nons y) →
          parlref2_GramErr.c15 (fun v L' => v = .int .i64 (chkRules g.terms g.nons [] g.rules) ∧ Le L L') parlref2_GramErr_1.id [] (some m) sg ((sg.n : Nat) : Int) ((i : Nat) : Int) sx ((sx.n : Nat) : Int) ((j : Nat) : Int) g.terms g.nons g.start sg g.rules[i].left sx L2 := by
        refine down ?_ ?_
        · intro hno
          rw [List.take_length] at hno
          rw [if_neg hno] at he
          have hsm : Small g.rules[i] := by
            refine ⟨by omega, fun s hs' => ?_, by omega⟩
            have hk : SymOk g.terms g.nons s := Classical.byContradiction fun h => hno ⟨s, hs', h⟩
            refine ⟨hk.1, ?_⟩
            cases ht : s.term with
            | true => have := hk.2.1 ht; omega
            | false => have := hk.2.2 ht; omega
          have hkey : ∃ l, keyOf PP mapT_map_string_int.k (.string (keyB g.rules[i])) = some l := keyOf_str mapT_map_string_int.str (Nat.le_trans (keyB_size hsm) (Nat.le_trans (show 2 + 3 * g.rules[i].right.length ≤ 14 by omega) (by decide)))
          obtain ⟨o, ho1, ho2⟩ := hM.ob
          have hfk := hf _ hsm
          apply parlref2_GramErr.go15
          refine bcD (fun h => absurd h (by omega)) fun _ => ?_
          refine (key_ro hx hsm).use ⟨_, rfl, ?_⟩
          by_cases hin : g.rules[i] ∈ g.rules.take i
          · rw [if_pos hin] at hfk he
            refine ⟨1, true, look_of mapT_map_string_int.ty (m := some m) hkey hM.map (by rw [hfk]; rfl) (by rw [hfk]; rfl), ?_⟩
            refine upd_of mapT_map_string_int.ty hkey hM.n0 ho1 ho2 fun o' ho' => ?_
            have hM2 := hM.upd ho'
            refine (key_ro ((nobSym hx).mono (nob_le (L := L2.setObj m o'))) hsm).use ⟨_, rfl, ?_⟩
            refine ⟨2, true, look_of mapT_map_string_int.ty (m := some m) hkey hM2.map (by rw [fput_self]; rfl) (by rw [fput_self]; rfl), ?_⟩
            exact bcD (fun _ => ⟨by rw [he], hM2.le⟩) fun h => absurd (by omega) h
          · rw [if_neg hin] at hfk he
            refine ⟨0, false, look_of mapT_map_string_int.ty (m := some m) hkey hM.map (by rw [hfk]; rfl) (by rw [hfk]; rfl), ?_⟩
            refine upd_of mapT_map_string_int.ty hkey hM.n0 ho1 ho2 fun o' ho' => ?_
            have hM2 := hM.upd ho'
            refine (key_ro ((nobSym hx).mono (nob_le (L := L2.setObj m o'))) hsm).use ⟨_, rfl, ?_⟩
            refine ⟨1, true, look_of mapT_map_string_int.ty (m := some m) hkey hM2.map (by rw [fput_self]; rfl) (by rw [fput_self]; rfl), ?_⟩
            refine bcD (fun h => absurd h (by omega)) fun _ => ?_
            rw [add_one (by omega)]
            have e1 : w64 (0 + 1) = 1 := rfl
            rw [e1] at hM2
            refine ih _ _ hM2 ?_ ?_
            · rw [List.take_succ_eq_append_getElem hi]; exact hf.put hsm
            · rw [List.take_succ_eq_append_getElem hi]; exact he
        · intro j hj ihj hno
          apply parlref2_GramErr.go15
          refine bcD (fun _ => ?_) fun h => absurd (by omega) h
          refine hx.get (List.getElem?_eq_getElem hj) fun a2 cs2 hK2 hc2 => ?_
          obtain rfl := hK2
          refine ⟨_, _, hc2, KnownS_ro.use ⟨_, rfl, bcN (bcD (fun hk => ?_) fun hk => ⟨?_, hM.le⟩)⟩⟩
          · rw [add_one (by omega)]
            refine ihj ?_
            rw [List.take_succ_eq_append_getElem hj]
            rintro ⟨y, hy, hny⟩
            rcases List.mem_append.1 hy with hy | hy
            · exact hno ⟨y, hy, hny⟩
            · rw [List.mem_singleton] at hy; subst hy; exact hny hk
          · rw [he, if_pos ⟨_, List.getElem_mem hj, hk⟩]
      exact syms 0 (Nat.zero_le _) (by simp)
  exact key 0 (Nat.zero_le _) _ _ hM0 (fun q _ => by simp) rfl
end Go.Proofs.YtcnkbjipogngaaaDoor

