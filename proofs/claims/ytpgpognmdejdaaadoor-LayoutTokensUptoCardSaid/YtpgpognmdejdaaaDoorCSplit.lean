/- strings.Split at the ends of lines. -/
import Derived.Test.YtpgpognmdejdaaaDoorVSplit
import Derived.Test.YtpgpognmdejdaaaDoorLibD
set_option linter.all false
namespace Go.Proofs.YtpgpognmdejdaaaDoor
open Go Go.Proofs.YtpgpognmdejdaaaDoor.GH

/-- The lines of a text. -/
def linesL : List UInt8 → List (List UInt8)
  | [] => [[]]
  | x :: r => if x = 10 then [] :: linesL r else match linesL r with
    | [] => [[x]]
    | a :: ls => (x :: a) :: ls

theorem linesL_len : ∀ l : List UInt8, (linesL l).length = l.count 10 + 1
  | [] => rfl
  | x :: r => by
    have ih := linesL_len r
    unfold linesL
    split
    · rename_i h; subst h; simp [ih]
    · rename_i h
      rw [List.count_cons_of_ne (by simpa using h)]
      split
      · rename_i e; rw [e] at ih; simp at ih
      · rename_i e; rw [e] at ih; simpa using ih
theorem linesL_cut : ∀ (a r : List UInt8), 10 ∉ a → linesL (a ++ 10 :: r) = a :: linesL r
  | [], r, _ => by simp [linesL]
  | x :: a, r, h => by
    have hx : x ≠ 10 := fun e => h (by rw [e]; exact List.mem_cons_self ..)
    have ih := linesL_cut a r (fun e => h (List.mem_cons_of_mem _ e))
    rw [List.cons_append, show linesL (x :: (a ++ 10 :: r)) = (if x = 10 then [] :: linesL (a ++ 10 :: r) else match linesL (a ++ 10 :: r) with | [] => [[x]] | a :: ls => (x :: a) :: ls) from rfl, if_neg hx, ih]
theorem linesL_one : ∀ {a : List UInt8}, 10 ∉ a → linesL a = [a]
  | [], _ => rfl
  | x :: a, h => by
    have hx : x ≠ 10 := fun e => h (by rw [e]; exact List.mem_cons_self ..)
    unfold linesL
    rw [if_neg hx, linesL_one (fun e => h (List.mem_cons_of_mem _ e))]

theorem idxB_le (c : UInt8) (l : List UInt8) : idxB c l < (l.length : Int) ∧ -1 ≤ idxB c l := by unfold idxB; split <;> omega

/-- The first end of a line cuts. -/
theorem idxB_cut {c : UInt8} {l : List UInt8} (h : 0 ≤ idxB c l) : ∃ m : Nat, idxB c l = m ∧ m < l.length ∧ c ∉ l.take m ∧ l = l.take m ++ c :: l.drop (m + 1) := by
  unfold idxB at h ⊢
  split at h
  · rename_i hlt
    refine ⟨l.idxOf c, by rw [if_pos hlt], hlt, ?_, ?_⟩
    · intro hm
      obtain ⟨i, hi, e⟩ := List.getElem_of_mem hm
      rw [List.length_take] at hi
      rw [List.getElem_take] at e
      have := List.not_of_lt_findIdx (p := (· == c)) (xs := l) (i := i) (by show i < l.idxOf c; omega)
      simp [e] at this
    · have e := List.getElem_idxOf hlt
      conv => lhs; rw [← List.take_append_drop (l.idxOf c) l, List.drop_eq_getElem_cons hlt, e]
  · omega
theorem idxB_none {c : UInt8} {l : List UInt8} (h : idxB c l < 0) : c ∉ l := by
  unfold idxB at h
  split at h
  · omega
  · rename_i hn
    exact fun hm => hn (List.idxOf_lt_length_of_mem hm)

def nlB : ByteArray := ByteArray.mk #[10]

theorem indexByte10_ro {L : GHeap} {s : ByteArray} : RO PP internal_stringslite_IndexByte.id [.string s, .int .u8 10] L (.int .i64 (idxB 10 (bl s))) := by
  apply internal_stringslite_IndexByte.go
  exact (indexByte_ro (c := 10) (by kernel_rfl)).use ⟨_, rfl, rfl, rfl⟩

theorem Index10_ro {L : GHeap} {s : ByteArray} : RO PP strings_Index.id [.string s, .string nlB] L (.int .i64 (idxB 10 (bl s))) := by
  apply strings_Index.go
  refine RO.use (v := .int .i64 (idxB 10 (bl s))) ?_ ⟨_, rfl, rfl, rfl⟩
  apply internal_stringslite_Index.go
  unfold internal_stringslite_Index.t
  rw [beq_bl]
  refine bcF (by decide) (bcD (fun h => ?_) fun h => bcT (by decide) ⟨⟨by omega, by decide⟩, indexByte10_ro.use ⟨_, rfl, rfl, rfl⟩⟩)
  apply internal_stringslite_Index.go3
  refine ⟨?_, rfl⟩
  rw [← h]; rfl

theorem Count10_ro {L : GHeap} {s : ByteArray} : RO PP strings_Count.id [.string s, .string nlB] L (.int .i64 (((bl s).count 10 : Nat) : Int)) := by
  apply strings_Count.go
  refine bcF (by decide) (bcT (by decide) ⟨⟨by omega, by decide⟩, ?_⟩)
  exact (countByte_ro (c := 10) (by kernel_rfl)).use ⟨_, rfl, rfl, rfl⟩

theorem Split_spec {L : GHeap} {s : ByteArray} (hs : s.size ≤ 1048576) : ACalls PP strings_Split.id [.string s, .string nlB] L fun v L' => Le L L' ∧ ∃ (so : Sl) (ss : List ByteArray), v = .slice so.a so.n so.c ∧ IsSl rStr L' so ss ∧ ss.map bl = linesL (bl s) := by
  apply strings_Split.go
  have hcl : (bl s).count 10 ≤ s.size := by rw [← bl_len]; exact List.count_le_length
  refine ACalls.mono (K := fun v L' => Le L L' ∧ ∃ (so : Sl) (ss : List ByteArray), v = .slice so.a so.n so.c ∧ IsSl rStr L' so ss ∧ ss.map bl = linesL (bl s)) ?_ ?_
  · apply strings_genSplit.go
    unfold strings_genSplit.t
    rw [beq_bl]
    refine bcF (by decide) (bcF (by decide) (bcT (by decide) (Count10_ro.use ⟨_, rfl, ?_⟩)))
    rw [add_one (by omega)]
    apply strings_genSplit.go7
    unfold strings_genSplit.t7
    rw [add_one (by omega)]
    have hm : mnx .min (((bl s).count 10 + 1 : Nat) : Int) ((s.size + 1 : Nat) : Int) = (((bl s).count 10 + 1 : Nat) : Int) := by
      unfold mnx; simp only; rw [if_neg (by omega)]
    rw [hm]
    apply strings_genSplit.go8
    refine ⟨⟨by omega, by omega, by omega⟩, ?_⟩
    intro b hu
    simp only [inL]
    rw [Int.toNat_natCast, Nat.mul_one]
    obtain ⟨hp0, ho0⟩ := PA.new (f := Value.string) (z := ⟨#[]⟩) (v := .string ⟨#[]⟩) (n := (bl s).count 10 + 1) rfl hu (LeM.refl L) (by omega)
    generalize L.alloc b (zeros ((bl s).count 10 + 1) [.string ⟨#[]⟩]) ((bl s).count 10 + 1) = L1 at *
    apply strings_genSplit.go9
    unfold strings_genSplit.t9
    have ew : w64 ((((bl s).count 10 + 1 : Nat) : Int) - 1) = (((bl s).count 10 : Nat) : Int) := by rw [w64_in (by omega) (by omega)]; omega
    rw [ew]
    apply strings_genSplit.go10
    unfold strings_genSplit.t10
    generalize hn : (bl s).count 10 = n at *
    have key : ∀ i, i ≤ n → ∀ (L2 : GHeap) (cur : ByteArray) (done rest : List ByteArray), PA Value.string L L2 (· = b) ⟨some ⟨b, 0, none⟩, n + 1, n + 1⟩ (done ++ rest) → L2.off (· = b) = L → done.length = i → cur.size ≤ 1048576 → done.map bl ++ linesL (bl cur) = linesL (bl s) →
        strings_genSplit.c11 (fun v L' => Le L L' ∧ ∃ (so : Sl) (ss : List ByteArray), v = .slice so.a so.n so.c ∧ IsSl rStr L' so ss ∧ ss.map bl = linesL (bl s)) cur nlB 0 ((n : Nat) : Int) ⟨some ⟨b, 0, none⟩, n + 1, n + 1⟩ ((i : Nat) : Int) L2 := by
      refine down ?_ ?_
      · intro L2 cur done rest hp hoff hd hcs he
        apply strings_genSplit.go11
        refine bcD (fun h => absurd h (by omega)) fun _ => ?_
        apply strings_genSplit.go17
        have hlen : (done ++ rest).length = n + 1 := by rw [← hp.n]
        have hlr : rest.length = 1 := by rw [List.length_append] at hlen; omega
        refine hp.set (i := n) (by omega) (x := cur) rfl fun L3 hp3 ho3 => ?_
        apply strings_genSplit.go18
        unfold strings_genSplit.t18
        rw [add_one (by omega)]
        refine ⟨⟨by omega, by simp⟩, hp3.le (by rw [ho3, hoff]; exact .refl L), ⟨some ⟨b, 0, none⟩, n + 1, n + 1⟩, (done ++ rest).set n cur, rfl, hp3.isSl rfl fun _ _ => rfl, ?_⟩
        match rest, hlr with
        | [x], _ =>
        have e1 : (done ++ [x]).set n cur = done ++ [cur] := by rw [← hd]; simp
        have hone : 10 ∉ bl cur := by
          have h1 := congrArg List.length he
          rw [List.length_append, linesL_len, linesL_len, List.length_map, hd, hn] at h1
          exact List.count_eq_zero.1 (by omega)
        rw [e1, List.map_append, ← he, linesL_one hone]; rfl
      · intro i hi ih L2 cur done rest hp hoff hd hcs he
        apply strings_genSplit.go11
        refine bcD (fun _ => ?_) fun h => absurd (by omega) h
        refine Index10_ro.use ⟨_, rfl, ?_⟩
        have h0 : 0 ≤ idxB 10 (bl cur) := by
          rcases Int.lt_or_le (idxB 10 (bl cur)) 0 with h | h
          · exfalso
            have h1 := congrArg List.length he
            rw [linesL_one (idxB_none h), List.length_append, linesL_len, List.length_map, hd, hn] at h1
            simp at h1; omega
          · exact h
        obtain ⟨m, em, hm, hnot, hcut⟩ := idxB_cut h0
        rw [bl_len] at hm
        rw [em]
        refine bcF (by simp) ?_
        have e0 : w64 ((m : Int) + 0) = (m : Int) := by rw [w64_in (by omega) (by omega)]; omega
        have e1 : w64 ((m : Int) + ((nlB.size : Nat) : Int)) = ((m + 1 : Nat) : Int) := by
          have : nlB.size = 1 := rfl
          rw [this, w64_in (by omega) (by omega)]; omega
        rw [e0, e1]
        simp only [Int.toNat_natCast]
        have hlen : (done ++ rest).length = n + 1 := by rw [← hp.n]
        refine ⟨⟨by omega, by omega⟩, hp.set (i := i) (by omega) (x := cur.extract 0 m) rfl fun L3 hp3 ho3 => ⟨⟨by omega, by omega⟩, ?_⟩⟩
        rw [add_one (by omega)]
        have hlr : rest ≠ [] := by rintro rfl; simp at hlen; omega
        match rest, hlr with
        | x :: rest, _ =>
        have es : (done ++ x :: rest).set i (cur.extract 0 m) = (done ++ [cur.extract 0 m]) ++ rest := by rw [← hd]; simp
        rw [es] at hp3
        refine ih L3 _ (done ++ [cur.extract 0 m]) rest hp3 (ho3.trans hoff) (by simp [hd]) (by simp; omega) ?_
        rw [← he, List.map_append, List.append_assoc]
        congr 1
        conv => rhs; rw [hcut, linesL_cut _ _ hnot]
        rw [List.map_cons, List.map_nil, bl_extract, bl_extract, List.drop_zero, List.take_of_length_le (i := cur.size) (l := bl cur) (by rw [bl_len]; omega)]
        rfl
    apply key 0 (Nat.zero_le _) L1 s [] (List.replicate (n + 1) ⟨#[]⟩) (by simpa using hp0) ho0 rfl hs rfl
  · rintro v L' ⟨h1, so, ss, rfl, h2, h3⟩
    exact ⟨so, rfl, h1, so, ss, rfl, h2, h3⟩
end Go.Proofs.YtpgpognmdejdaaaDoor
