/- parlref2.GramErr says what gram.Check says. -/
import Derived.Test.YtcnkbjipogngaaaDoorVAll3
import Derived.Test.YtcnkbjipogngaaaDoorCOrd
import Derived.Test.YtcnkbjipogngaaaDoorLibD
set_option linter.all false
namespace Go.Proofs.YtcnkbjipogngaaaDoor
open Go Go.Proofs.YtcnkbjipogngaaaDoor.GH

/-- A digit, as a string. -/
def digB (n : Int) : ByteArray := (ByteArray.mk #[48, 49, 50, 51, 52, 53, 54, 55, 56, 57, 97, 98, 99, 100, 101, 102, 103, 104, 105, 106, 107, 108, 109, 110, 111, 112, 113, 114, 115, 116, 117, 118, 119, 120, 121, 122]).extract (Int.toNat n) (Int.toNat n + 1)
def digL (n : Int) : List UInt8 := [UInt8.ofNat (48 + n.toNat)]

theorem digB_list {n : Int} (h0 : 0 ≤ n) (h1 : n < 10) : (digB n).data.toList = digL n := by
  obtain ⟨k, rfl⟩ : ∃ k : Nat, n = (k : Int) := ⟨n.toNat, by omega⟩
  have hk : k < 10 := by omega
  match k, hk with
  | 0, _ => rfl
  | 1, _ => rfl
  | 2, _ => rfl
  | 3, _ => rfl
  | 4, _ => rfl
  | 5, _ => rfl
  | 6, _ => rfl
  | 7, _ => rfl
  | 8, _ => rfl
  | 9, _ => rfl
theorem digB_size {n : Int} (h0 : 0 ≤ n) (h1 : n < 10) : (digB n).size = 1 := by
  have := congrArg List.length (digB_list h0 h1)
  rw [Array.length_toList] at this
  exact this

theorem small_ro {L : GHeap} {n : Int} (h0 : 0 ≤ n) (h1 : n < 10) : RO PP internal_strconv_small.id [.int .i64 n] L (.string (digB n)) := by
  apply internal_strconv_small.go
  unfold internal_strconv_small.t
  have e : w64 (n + 1) = n + 1 := w64_in (by omega) (by omega)
  rw [e]
  refine bcD (fun _ => ⟨⟨by omega, ?_⟩, ⟨by omega, by omega⟩, ?_, rfl⟩) fun h => absurd h1 h
  · show n + 1 ≤ ((36 : Nat) : Int); omega
  · unfold digB
    have : Int.toNat (n + 1) = Int.toNat n + 1 := by omega
    rw [this]

theorem Itoa_ro {L : GHeap} {n : Int} (h0 : 0 ≤ n) (h1 : n < 10) : RO PP strconv_Itoa.id [.int .i64 n] L (.string (digB n)) := by
  apply strconv_Itoa.go
  unfold strconv_Itoa.t
  have h2 : RO PP internal_strconv_FormatInt.id [.int .i64 n, .int .i64 10] L (.string (digB n)) := by
    apply internal_strconv_FormatInt.go
    unfold internal_strconv_FormatInt.t
    refine bcT (by simp) (bcD (fun _ => bcD (fun _ => (small_ro h0 h1).use ⟨_, rfl, rfl, rfl⟩) fun h => absurd (by omega) h) fun h => absurd h0 h)
  have h3 : RO PP internal_strconv_Itoa.id [.int .i64 n] L (.string (digB n)) := by
    apply internal_strconv_Itoa.go
    unfold internal_strconv_Itoa.t
    exact h2.use ⟨_, rfl, rfl, rfl⟩
  exact h3.use ⟨_, rfl, rfl, rfl⟩

/-- What is put behind a key for a symbol. -/
def keyS (out : ByteArray) (s : Sym) : ByteArray := (if s.term = true then out ++ ByteArray.mk #[116] else out) ++ (digB s.n ++ ByteArray.mk #[44])
def keyB (r : Rule) : ByteArray := r.right.foldl keyS (digB r.left ++ ByteArray.mk #[58])
def symL (s : Sym) : List UInt8 := (if s.term = true then [116] else []) ++ (digL s.n ++ [44])

theorem keyS_list {out : ByteArray} {s : Sym} (h0 : 0 ≤ s.n) (h1 : s.n < 10) : (keyS out s).data.toList = out.data.toList ++ symL s := by
  unfold keyS symL
  split <;> simp [ByteArray.data_append, digB_list h0 h1]
theorem keyF_list : ∀ (ss : List Sym) (out : ByteArray), (∀ s ∈ ss, 0 ≤ s.n ∧ s.n < 10) → (ss.foldl keyS out).data.toList = out.data.toList ++ ss.flatMap symL
  | [], out, _ => by simp
  | s :: ss, out, h => by
    obtain ⟨h0, h1⟩ := h s (List.mem_cons_self ..)
    rw [List.foldl_cons, keyF_list ss _ fun x hx => h x (List.mem_cons_of_mem _ hx), keyS_list h0 h1, List.flatMap_cons, List.append_assoc]

structure Small (r : Rule) : Prop where
  left : 0 ≤ r.left ∧ r.left < 10
  right : ∀ s ∈ r.right, 0 ≤ s.n ∧ s.n < 10
  len : r.right.length ≤ 4

theorem keyB_list {r : Rule} (h : Small r) : (keyB r).data.toList = digL r.left ++ [58] ++ r.right.flatMap symL := by
  unfold keyB
  rw [keyF_list _ _ h.right]
  simp [ByteArray.data_append, digB_list h.left.1 h.left.2]

theorem dig_inj {m n : Int} (h0 : 0 ≤ m ∧ m < 10) (h1 : 0 ≤ n ∧ n < 10) (h : UInt8.ofNat (48 + m.toNat) = UInt8.ofNat (48 + n.toNat)) : m = n := by
  have := congrArg UInt8.toNat h
  simp only [UInt8.toNat_ofNat'] at this
  omega
theorem dig_ne {m : Int} (h0 : 0 ≤ m ∧ m < 10) : UInt8.ofNat (48 + m.toNat) ≠ 116 := by
  intro h
  have := congrArg UInt8.toNat h
  simp only [UInt8.toNat_ofNat'] at this
  have e : UInt8.toNat 116 = 116 := rfl
  omega

theorem syms_inj : ∀ {xs ys : List Sym}, (∀ s ∈ xs, 0 ≤ s.n ∧ s.n < 10) → (∀ s ∈ ys, 0 ≤ s.n ∧ s.n < 10) → xs.flatMap symL = ys.flatMap symL → xs = ys
  | [], [], _, _, _ => rfl
  | [], y :: ys, _, _, h => by simp [symL, digL] at h
  | x :: xs, [], _, _, h => by simp [symL, digL] at h
  | ⟨xt, xn⟩ :: xs, ⟨yt, yn⟩ :: ys, hx, hy, h => by
    have x0 := hx _ (List.mem_cons_self ..)
    have y0 := hy _ (List.mem_cons_self ..)
    have rest := syms_inj (xs := xs) (ys := ys) (fun s hs => hx s (List.mem_cons_of_mem _ hs)) (fun s hs => hy s (List.mem_cons_of_mem _ hs))
    cases xt <;> cases yt <;> simp only [List.flatMap_cons, symL, digL, if_true, List.singleton_append, List.nil_append, List.cons_append, List.cons.injEq, Bool.false_eq_true, if_false] at h
    · obtain ⟨a, _, c⟩ := h
      have hd : xn = yn := dig_inj x0 y0 a
      rw [hd, rest c]
    · exact absurd h.1 (dig_ne x0)
    · exact absurd h.1.symm (dig_ne y0)
    · obtain ⟨_, a, _, c⟩ := h
      have hd : xn = yn := dig_inj x0 y0 a
      rw [hd, rest c]

theorem keyB_inj {r q : Rule} (h : Small r) (h' : Small q) (e : keyB r = keyB q) : r = q := by
  have e2 : (keyB r).data.toList = (keyB q).data.toList := by rw [e]
  rw [keyB_list h, keyB_list h'] at e2
  simp only [digL, List.singleton_append, List.cons_append, List.nil_append, List.cons.injEq] at e2
  obtain ⟨a, _, c⟩ := e2
  obtain ⟨l, rr⟩ := r
  obtain ⟨l', rr'⟩ := q
  have := dig_inj h.left h'.left a
  have := syms_inj h.right h'.right c
  simp only at *
  subst_vars; rfl

theorem symL_len (s : Sym) : (symL s).length ≤ 3 := by unfold symL digL; split <;> simp
theorem syms_len : ∀ ss : List Sym, (ss.flatMap symL).length ≤ 3 * ss.length
  | [] => by simp
  | s :: ss => by
    have a := symL_len s
    have b := syms_len ss
    simp only [List.flatMap_cons, List.length_append, List.length_cons]; omega

theorem keyB_size {r : Rule} (h : Small r) : (keyB r).size ≤ 2 + 3 * r.right.length := by
  have := congrArg List.length (keyB_list h)
  rw [Array.length_toList] at this
  have e : (keyB r).size = (keyB r).data.size := rfl
  have := syms_len r.right
  simp only [digL, List.length_append, List.length_singleton] at *
  omega

theorem key_ro {L : GHeap} {sr : Sl} {r : Rule} (hr : IsSl rSym L sr r.right) (h : Small r) : RO PP parlref2_key.id [.agg #[.int .i64 r.left, .slice sr.a sr.n sr.c]] L (.string (keyB r)) := by
  have hmax : ((9223372036854775807 : Nat) : Int) = IntKind.i64.max := by rfl
  apply parlref2_key.go
  unfold parlref2_key.t
  refine (Itoa_ro h.left.1 h.left.2).use ⟨_, rfl, ?_, ?_⟩
  · rw [digB_size h.left.1 h.left.2, ← hmax]
    show ((1 + 1 : Nat) : Int) ≤ _
    omega
  have key : ∀ i, i ≤ r.right.length → parlref2_key.c3 (fun u L' => u = Value.string (keyB r) ∧ L' = L) ((r.right.take i).foldl keyS (digB r.left ++ ByteArray.mk #[58])) sr ((sr.n : Nat) : Int) ((i : Nat) : Int) L := by
    refine down ?_ ?_
    · rw [List.take_length]
      apply parlref2_key.go3
      exact bcD (fun h => absurd h (by rw [hr.n]; omega)) fun _ => ⟨rfl, rfl⟩
    · intro i hi ih
      rw [List.take_succ_eq_append_getElem hi, List.foldl_append, List.foldl_cons, List.foldl_nil] at ih
      obtain ⟨y0, y1⟩ := h.right _ (List.getElem_mem hi)
      have hsz := keyB_size (r := ⟨r.left, r.right.take i⟩) ⟨h.left, fun s hs => h.right s (List.mem_of_mem_take hs), by have := h.len; simp only [List.length_take]; omega⟩
      have hl4 := h.len
      have hsz : ((r.right.take i).foldl keyS (digB r.left ++ ByteArray.mk #[58])).size ≤ 2 + 3 * (r.right.take i).length := hsz
      rw [List.length_take] at hsz
      generalize (r.right.take i).foldl keyS (digB r.left ++ ByteArray.mk #[58]) = out at ih hsz ⊢
      apply parlref2_key.go3
      refine bcD (fun _ => ?_) fun h => absurd (by rw [hr.n]; omega) h
      refine hr.get (List.getElem?_eq_getElem hi) fun a cs hK hc => ?_
      obtain rfl := hK
      have c7 : ∀ o : ByteArray, o.size ≤ 100 → keyS out r.right[i] = o ++ (digB r.right[i].n ++ ByteArray.mk #[44]) → parlref2_key.c7 (fun u L' => u = Value.string (keyB r) ∧ L' = L) o sr ((sr.n : Nat) : Int) ((i : Nat) : Int) r.right[i].term r.right[i].n L := by
        intro o ho e
        have hds := digB_size y0 y1
        apply parlref2_key.go7
        refine (Itoa_ro y0 y1).use ⟨_, rfl, ?_, ?_, ?_⟩
        · rw [hds, ← hmax]
          show ((1 + 1 : Nat) : Int) ≤ _
          omega
        · rw [ByteArray.size_append, hds, ← hmax]
          show ((o.size + (1 + 1) : Nat) : Int) ≤ _
          omega
        · apply parlref2_key.go8
          unfold parlref2_key.t8
          rw [add_one (by omega), ← e]
          exact ih
      refine ⟨_, _, hc, ?_⟩
      have e116 : (ByteArray.mk #[116]).size = 1 := rfl
      refine bcI (fun ht => ⟨?_, c7 _ ?_ ?_⟩) fun ht => c7 _ (by omega) ?_
      · rw [e116, ← hmax]; omega
      · rw [ByteArray.size_append, e116]; omega
      · unfold keyS; rw [if_pos ht]
      · unfold keyS; rw [if_neg (by simpa using ht)]
  exact key 0 (Nat.zero_le _)
end Go.Proofs.YtcnkbjipogngaaaDoor
