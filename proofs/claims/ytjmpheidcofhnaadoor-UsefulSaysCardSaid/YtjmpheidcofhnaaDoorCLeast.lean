/- Package useful: before, word. -/
import Derived.Test.YtjmpheidcofhnaaDoorVAll1
import Derived.Test.YtjmpheidcofhnaaDoorCLeastLaw
set_option linter.all false
namespace Go.Proofs.YtjmpheidcofhnaaDoor
open Go Go.Proofs.YtjmpheidcofhnaaDoor.GH

theorem CompareI_ro {L : GHeap} {s1 s2 : Sl} {xs ys : List Int} (h1 : IsSl rI L s1 xs) (h2 : IsSl rI L s2 ys) (hb : xs.length ≤ 1099511627776) : RO PP slices_Compare_int_int.id [.slice s1.a s1.n s1.c, .slice s2.a s2.n s2.c] L (.int .i64 (lexI xs ys)) := by
  apply slices_Compare_int_int.go
  have key : ∀ i, i ≤ xs.length → i ≤ ys.length → lexI xs ys = lexI (xs.drop i) (ys.drop i) → slices_Compare_int_int.c2 (fun v L' => v = Value.int .i64 (lexI xs ys) ∧ L' = L) s1 s2 s1 ((s1.n : Nat) : Int) ((i : Nat) : Int) L := by
    refine down ?_ ?_
    · intro hy he
      rw [List.drop_length] at he
      apply slices_Compare_int_int.go2
      refine bcD (fun h => absurd h (by rw [h1.n]; omega)) fun _ => bcD (fun h => ?_) fun h => ?_
      · rw [h1.n, h2.n] at h
        rw [List.drop_eq_getElem_cons (show xs.length < ys.length by omega)] at he
        exact ⟨by rw [he]; rfl, rfl⟩
      · rw [h1.n, h2.n] at h
        rw [show ys.drop xs.length = [] from List.drop_eq_nil_of_le (by omega)] at he
        exact ⟨by rw [he]; rfl, rfl⟩
    · intro i hi ih hy he
      rw [List.drop_eq_getElem_cons hi] at he
      apply slices_Compare_int_int.go2
      refine bcD (fun _ => ?_) fun h => absurd (by rw [h1.n]; omega) h
      refine h1.get (List.getElem?_eq_getElem hi) fun a cs hK hc => ?_
      obtain rfl := hK
      refine ⟨_, reads_one hc, bcD (fun h => ?_) fun h => ?_⟩
      · rw [h2.n] at h
        rw [show ys.drop i = [] from List.drop_eq_nil_of_le (by omega)] at he
        exact ⟨by rw [he]; rfl, rfl⟩
      · rw [h2.n] at h
        have hi' : i < ys.length := by omega
        rw [List.drop_eq_getElem_cons hi'] at he
        simp only [lexI] at he
        refine h2.get (List.getElem?_eq_getElem hi') fun a2 cs2 hK2 hc2 => ?_
        obtain rfl := hK2
        refine ⟨_, reads_one hc2, (Compare_ro _ _ _).use ⟨_, rfl, bcNE (fun hne => ?_) fun he0 => ?_⟩⟩
        · rw [if_pos hne] at he
          exact ⟨by rw [he], rfl⟩
        · rw [if_neg (by simpa using he0)] at he
          rw [add_one (by omega)]
          exact ih (by omega) he
  exact key 0 (Nat.zero_le _) (Nat.zero_le _) rfl

theorem before_ro {L : GHeap} {s1 s2 : Sl} {xs ys : List Int} (h1 : IsSl rI L s1 xs) (h2 : IsSl rI L s2 ys) (hb : xs.length ≤ 1099511627776) : RO PP useful_before.id [.slice s1.a s1.n s1.c, .slice s2.a s2.n s2.c] L (.bool (decide (ltW xs ys))) := by
  apply useful_before.go
  refine bcNE (fun h => ⟨?_, rfl⟩) fun h => (CompareI_ro h1 h2 hb).use ⟨_, rfl, ?_, rfl⟩
  · rw [h1.n, h2.n] at h ⊢
    congr 1
    rw [decide_eq_decide]
    unfold ltW
    constructor
    · exact fun h' => .inl (by omega)
    · rintro (h' | ⟨h', _⟩) <;> omega
  · rw [h1.n, h2.n] at h
    congr 1
    rw [decide_eq_decide]
    unfold ltW
    constructor
    · exact fun h' => .inr ⟨by omega, h'⟩
    · rintro (h' | ⟨_, h'⟩)
      · omega
      · exact h'

def wdOf (words : List (List Int)) (n : Int) : List Int := words.getD n.toNat []
def dnOf (done : List Bool) (n : Int) : Prop := done.getD n.toNat false = true

theorem wcat_append (wd : Int → List Int) : ∀ xs ys : List Sym, wcat wd (xs ++ ys) = wcat wd xs ++ wcat wd ys
  | [], _ => rfl
  | x :: xs, ys => by simp only [List.cons_append, wcat, wcat_append wd xs ys, List.append_assoc]

theorem wcat_len {wd : Int → List Int} {B : Nat} (hB : 1 ≤ B) (h : ∀ n, (wd n).length ≤ B) : ∀ ss : List Sym, (wcat wd ss).length ≤ ss.length * B
  | [] => by simp [wcat]
  | s :: ss => by
    have ih := wcat_len hB h ss
    have := h s.n
    simp only [wcat, List.length_append, List.length_cons]
    rw [Nat.succ_mul]
    split
    · simp only [List.length_singleton]; omega
    · omega

theorem word_spec {L : GHeap} {sr sw sd : Sl} {left : Int} {right : List Sym} {words : List (List Int)} {done : List Bool} (hr : IsSl rSym L sr right) (hw : IsSl (rS rI) L sw words) (hd : IsSl rB L sd done) (hlen : words.length = done.length)
    (hok : ∀ s ∈ right, s.term = false → 0 ≤ s.n ∧ s.n < done.length) (hB : ∀ w ∈ words, w.length ≤ 16777216) (hrl : right.length ≤ 4) :
    ACalls PP useful_word.id [.agg #[.int .i64 left, .slice sr.a sr.n sr.c], .slice sw.a sw.n sw.c, .slice sd.a sd.n sd.c] L fun v L' => Le L L' ∧
      ((∃ so : Sl, v = .tuple #[.slice so.a so.n so.c, .bool true] ∧ Own L rI L' so (wcat (wdOf words) right) ∧ ∀ s ∈ right, s.term = false → dnOf done s.n) ∨
       (v = .tuple #[.slice none 0 0, .bool false] ∧ ∃ s ∈ right, s.term = false ∧ ¬ dnOf done s.n)) := by
  have hwd : ∀ n, (wdOf words n).length ≤ 16777216 := fun n => by
    unfold wdOf
    rw [List.getD_eq_getElem?_getD]
    by_cases h : n.toNat < words.length
    · rw [List.getElem?_eq_getElem h]; exact hB _ (List.getElem_mem h)
    · rw [List.getElem?_eq_none (by omega)]; simp
  apply useful_word.go
  have key : ∀ i, i ≤ right.length → ∀ (L2 : GHeap) (so : Sl), Le L L2 → Own L rI L2 so (wcat (wdOf words) (right.take i)) → (∀ s ∈ right.take i, s.term = false → dnOf done s.n) →
      useful_word.c3 (fun v L' => Le L L' ∧ ((∃ so : Sl, v = .tuple #[.slice so.a so.n so.c, .bool true] ∧ Own L rI L' so (wcat (wdOf words) right) ∧ ∀ s ∈ right, s.term = false → dnOf done s.n) ∨
       (v = .tuple #[.slice none 0 0, .bool false] ∧ ∃ s ∈ right, s.term = false ∧ ¬ dnOf done s.n))) sw sd so sr ((sr.n : Nat) : Int) ((i : Nat) : Int) L2 := by
    refine down ?_ ?_
    · intro L2 so hle ho hall
      rw [List.take_length] at ho hall
      apply useful_word.go3
      exact bcD (fun h => absurd h (by rw [hr.n]; omega)) fun _ => ⟨hle, .inl ⟨so, rfl, ho, hall⟩⟩
    · intro i hi ih L2 so hle ho hall
      have hcl := wcat_len (B := 16777216) (by omega) hwd (right.take i)
      have htl : (right.take i).length ≤ 4 := by rw [List.length_take]; omega
      have hcl' : (wcat (wdOf words) (right.take i)).length ≤ 67108864 := Nat.le_trans hcl (Nat.mul_le_mul_right _ htl)
      have next : ∀ (L3 : GHeap) (so' : Sl), Le L L3 → Own L rI L3 so' (wcat (wdOf words) (right.take (i + 1))) → (right[i].term = false → dnOf done right[i].n) →
          useful_word.c10 (fun v L' => Le L L' ∧ ((∃ so : Sl, v = .tuple #[.slice so.a so.n so.c, .bool true] ∧ Own L rI L' so (wcat (wdOf words) right) ∧ ∀ s ∈ right, s.term = false → dnOf done s.n) ∨
       (v = .tuple #[.slice none 0 0, .bool false] ∧ ∃ s ∈ right, s.term = false ∧ ¬ dnOf done s.n))) sw sd so' sr ((sr.n : Nat) : Int) ((i : Nat) : Int) L3 := by
        intro L3 so' h1 h2 h3
        apply useful_word.go10
        unfold useful_word.t10
        rw [add_one (by omega)]
        refine ih L3 so' h1 h2 fun s hs ht => ?_
        rw [List.take_succ_eq_append_getElem hi] at hs
        rcases List.mem_append.1 hs with hs | hs
        · exact hall s hs ht
        · rw [List.mem_singleton] at hs; subst hs; exact h3 ht
      apply useful_word.go3
      refine bcD (fun _ => ?_) fun h => absurd (by rw [hr.n]; omega) h
      refine (hr.mono hle.toLeM).get (List.getElem?_eq_getElem hi) fun a cs hK hc => ?_
      obtain rfl := hK
      have etake : wcat (wdOf words) (right.take (i + 1)) = wcat (wdOf words) (right.take i) ++ (if right[i].term = true then [right[i].n] else wdOf words right[i].n) := by
        rw [List.take_succ_eq_append_getElem hi, wcat_append]; simp [wcat]
      refine ⟨_, _, hc, bcI (fun ht => ?_) fun ht => ?_⟩
      · rw [if_pos ht] at etake
        refine Own.append (R := rI) (bytes := 8) (m := 1) (ys := [right[i].n]) ho hle (Cells.cons (c := [.int .i64 right[i].n]) rfl .nil) rfl (.inl (by omega)) fun s' L3 g1 _ g3 _ _ => ?_
        exact next L3 s' g1 (by rw [etake]; exact g3) fun h => by rw [ht] at h; cases h
      · rw [if_neg (by rw [ht]; simp)] at etake
        obtain ⟨h0, h1⟩ := hok _ (List.getElem_mem hi) ht
        have hlt : right[i].n.toNat < done.length := by omega
        have hlt' : right[i].n.toNat < words.length := by omega
        refine (hd.mono hle.toLeM).getI h0 (List.getElem?_eq_getElem hlt) fun a2 cs2 hK2 hc2 => ?_
        obtain rfl := hK2
        have hdn : dnOf done right[i].n ↔ done[right[i].n.toNat] = true := by unfold dnOf; rw [List.getD_eq_getElem?_getD, List.getElem?_eq_getElem hlt]; rfl
        refine ⟨_, reads_one hc2, bcN (bcI (fun hdt => ?_) fun hdf => ⟨hle, .inr ⟨rfl, _, List.getElem_mem hi, ht, fun h => by rw [hdn.1 h] at hdf; cases hdf⟩⟩)⟩
        have ewd : wdOf words right[i].n = words[right[i].n.toNat] := by unfold wdOf; rw [List.getD_eq_getElem?_getD, List.getElem?_eq_getElem hlt']; rfl
        refine (hw.mono hle.toLeM).getI h0 (List.getElem?_eq_getElem hlt') fun a3 cs3 hK3 hc3 => ?_
        obtain ⟨s3, rfl, hs3⟩ := hK3
        obtain ⟨c22, hc22, hr22⟩ := hs3.cells
        have hwl := hB _ (List.getElem_mem hlt')
        have hn3 := hs3.n
        refine ⟨s3, reads_one hc3, c22, ⟨hr22, hc22.one⟩, ?_⟩
        refine Own.append (R := rI) (bytes := 8) (m := s3.n) (ys := words[right[i].n.toNat]) ho hle hc22 hn3.symm (.inl (by omega)) fun s' L3 g1 _ g3 _ _ => ?_
        exact next L3 s' g1 (by rw [etake, ewd]; exact g3) fun _ => hdn.2 hdt
  exact key 0 (Nat.zero_le _) L ⟨none, 0, 0⟩ (.refl _) (.nil _ _ _) (fun s hs => by cases hs)
end Go.Proofs.YtjmpheidcofhnaaDoor
