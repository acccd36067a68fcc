/- Contracts of the program's functions. -/
import Derived.Test.YtekiknmhlfiemaaDoorVAll1
import Derived.Test.YtekiknmhlfiemaaDoorCAll1
import Derived.Test.YtekiknmhlfiemaaDoorLibD
import Derived.Test.YtekiknmhlfiemaaDoorVAll2
set_option linter.all false
namespace Go.Proofs.YtekiknmhlfiemaaDoor
open Go Go.Proofs.YtekiknmhlfiemaaDoor.GH

theorem Mul_ro {x y : Int} {L : GHeap} (hx : 0 ≤ x ∧ x ≤ 65536) (hy : 0 ≤ y ∧ y ≤ 65536) : RO PP math_bits_Mul.id [.int .u64 x, .int .u64 y] L (.tuple #[.int .u64 0, .int .u64 (x * y)]) := by
  have hxy : 0 ≤ x * y ∧ x * y ≤ 4294967296 := ⟨Int.mul_nonneg hx.1 hy.1, Int.le_trans (Int.mul_le_mul hx.2 hy.2 hy.1 (by omega)) (by omega)⟩
  apply math_bits_Mul.go
  refine RO.use (v := .tuple #[.int .u64 0, .int .u64 (x * y)]) ?_ ⟨_, _, rfl, rfl, rfl⟩
  apply math_bits_Mul64.go
  have hd : ∀ z : Int, 0 ≤ z ∧ z ≤ 4294967295 → Int.fdiv z (2 ^ (min (Int.toNat (32 : Int)) 64)) = 0 := fun z hz => by
    rw [Int.fdiv_eq_ediv_of_nonneg _ (by decide)]
    exact Int.ediv_eq_zero_of_lt hz.1 (by show z < 4294967296; omega)
  have hm : ∀ z : Int, 0 ≤ z ∧ z ≤ 4294967295 → IntKind.wrap .u64 ((BitVec.toNat (BitVec.ofInt 64 z &&& BitVec.ofInt 64 (4294967295 : Int)) : Nat) : Int) = z := fun z hz => by
    obtain ⟨n, rfl⟩ := Int.eq_ofNat_of_zero_le hz.1
    have e1 : (BitVec.ofInt 64 ((n : Nat) : Int)).toNat = n := by rw [BitVec.ofInt_natCast, BitVec.toNat_ofNat]; exact Nat.mod_eq_of_lt (by omega)
    have e2 : (BitVec.ofInt 64 (4294967295 : Int)).toNat = 2 ^ 32 - 1 := by rfl
    rw [BitVec.toNat_and, e1, e2, Nat.and_two_pow_sub_one_eq_mod, Nat.mod_eq_of_lt (by omega)]
    exact IntWalk.u64_in _ ⟨by omega, by omega⟩
  have w0 : IntKind.wrap .u64 (0 : Int) = 0 := rfl
  have wxy := IntWalk.u64_in (x * y) ⟨by omega, by omega⟩
  refine ⟨by omega, by omega, by omega, by omega, by omega, ?_, rfl⟩
  have big : ∀ z : Int, 0 ≤ z ∧ z ≤ 4294967296 → Int.fdiv z (2 ^ (min (Int.toNat (32 : Int)) 64)) = if z = 4294967296 then 1 else 0 := fun z hz => by
    split
    · rename_i h; rw [h]; rfl
    · exact hd z ⟨hz.1, by omega⟩
  rw [hd x ⟨by omega, by omega⟩, hd y ⟨by omega, by omega⟩, hm x ⟨by omega, by omega⟩, hm y ⟨by omega, by omega⟩]
  simp only [Int.zero_mul, Int.mul_zero, w0, wxy, big (x * y) hxy, Int.zero_add]
  split <;> rfl

/-! ### Repeat -/
theorem Repeat_spec {L : GHeap} {s : Sl} {x : Int} {n : Nat} (hs : IsSl rI L s [x]) (hn : 0 < n ∧ n ≤ 65536) :
    ACalls PP slices_Repeat_int_int.id [.slice s.a s.n s.c, .int .i64 ((n : Nat) : Int)] L fun v L' => ∃ b, v = .slice (some ⟨b, 0, none⟩) n n ∧ L.unused b ∧ PA (Value.int .i64) L L' (· = b) ⟨some ⟨b, 0, none⟩, n, n⟩ (List.replicate n x) ∧ L'.off (· = b) = L := by
  have hsn := hs.n
  simp only [List.length_singleton] at hsn
  apply slices_Repeat_int_int.go
  unfold slices_Repeat_int_int.t
  rw [hsn, IntWalk.u64_in _ ⟨by omega, by omega⟩, IntWalk.u64_in _ ⟨by omega, by omega⟩]
  refine bcD (fun h => by omega) fun _ => (Mul_ro ⟨by omega, by omega⟩ ⟨by omega, by omega⟩).use ⟨_, _, rfl, bcD (fun h => by omega) fun _ => bcD (fun h => by omega) fun _ => ?_⟩
  have e : w64 (((1 : Nat) : Int) * ((n : Nat) : Int)) = ((n : Nat) : Int) := by rw [w64_in (by omega) (by omega)]; omega
  rw [e]
  refine ⟨⟨by omega, by omega, by omega⟩, fun b hu => ?_⟩
  rw [Int.toNat_natCast, Nat.mul_one]
  obtain ⟨hpa, hoff⟩ := PA.new (f := Value.int .i64) (L0 := L) (z := 0) (v := .int .i64 0) (n := n) rfl hu (LeM.refl L) hn.1
  simp only [inL]
  generalize L.alloc b (zeros n [.int .i64 0]) n = L1 at *
  have emin : Nat.min 1 n = 1 := Nat.min_eq_left hn.1
  rw [emin]
  have hle1 : Le L L1 := hpa.le (by rw [hoff]; exact .refl L)
  obtain ⟨cs, hcs, hrd⟩ := (hs.mono hle1.toLeM).cells
  rw [hsn] at hrd
  have ecs : cs = [.int .i64 x] := by
    cases hcs with
    | cons h1 h2 => cases h2; rw [List.append_nil]; exact h1
  have key : ∀ d k, n - k = d → 1 ≤ k → k ≤ n → ∀ L2, PA (Value.int .i64) L L2 (· = b) ⟨some ⟨b, 0, none⟩, n, n⟩ (List.replicate k x ++ List.replicate (n - k) 0) → L2.off (· = b) = L →
      slices_Repeat_int_int.c8 (fun v L' => ∃ b, v = .slice (some ⟨b, 0, none⟩) n n ∧ L.unused b ∧ PA (Value.int .i64) L L' (· = b) ⟨some ⟨b, 0, none⟩, n, n⟩ (List.replicate n x) ∧ L'.off (· = b) = L) ⟨some ⟨b, 0, none⟩, n, n⟩ ((k : Nat) : Int) L2 := by
    intro d
    induction d using Nat.strongRecOn with
    | ind d ih =>
      intro k hd hk1 hkn L2 hp ho
      apply slices_Repeat_int_int.go8
      dsimp only [slices_Repeat_int_int.t8]
      refine bcD (fun h => ?_) fun h => ?_
      · have h : k < n := by omega
        refine ⟨⟨by omega, by omega⟩, ⟨by omega, by omega⟩, ?_⟩
        rw [Int.toNat_natCast]
        generalize hm : Nat.min k (n - k) = m
        have hm1 : m ≤ k ∧ m ≤ n - k ∧ 0 < m := by
          have hm : min k (n - k) = m := hm
          omega
        have hrd2 := hp.reads (i := 0) (n := m) (by simp; omega) (a := ⟨b, 0, none⟩) rfl
        rw [add_zero] at hrd2
        have e1 : ((List.replicate k x ++ List.replicate (n - k) 0).drop 0).take m = List.replicate m x := by
          rw [List.drop_zero, List.take_append_of_le_length (by simp; omega), List.take_replicate, Nat.min_eq_left hm1.1]
        rw [e1] at hrd2
        obtain ⟨p1, p2, p3⟩ := hp.sets (i := k) (ys := List.replicate m x) (by simp; omega) (a := ⟨b, 0, none⟩) rfl
        have hcell : ((List.replicate m x).map (Value.int .i64)).all Value.oneCell' = true := by simp [Value.oneCell']
        have next : ∀ L3, PA (Value.int .i64) L L3 (· = b) ⟨some ⟨b, 0, none⟩, n, n⟩ (over (List.replicate k x ++ List.replicate (n - k) 0) k (List.replicate m x)) → L3.off (· = b) = L →
            slices_Repeat_int_int.c8 (fun v L' => ∃ b, v = .slice (some ⟨b, 0, none⟩) n n ∧ L.unused b ∧ PA (Value.int .i64) L L' (· = b) ⟨some ⟨b, 0, none⟩, n, n⟩ (List.replicate n x) ∧ L'.off (· = b) = L) ⟨some ⟨b, 0, none⟩, n, n⟩ (w64 (((k : Nat) : Int) + ((m : Nat) : Int))) L3 := by
          intro L3 h1 h2
          have ew : w64 (((k : Nat) : Int) + ((m : Nat) : Int)) = ((k + m : Nat) : Int) := by rw [w64_in (by omega) (by omega)]; omega
          rw [ew]
          refine ih (n - (k + m)) (by omega) (k + m) rfl (by omega) (by omega) L3 ?_ h2
          have : over (List.replicate k x ++ List.replicate (n - k) 0) k (List.replicate m x) = List.replicate (k + m) x ++ List.replicate (n - (k + m)) 0 := by
            unfold over
            rw [List.take_left' (by simp), List.length_replicate, List.replicate_append_replicate]
            congr 1
            rw [List.drop_append, List.drop_replicate, List.drop_replicate]
            simp; omega
          rw [← this]; exact h1
        refine ⟨(List.replicate m x).map (Value.int .i64), ⟨⟨by simp, hrd2⟩, hcell⟩, .inr ⟨⟨b, k, none⟩, ?_, ?_, ?_⟩⟩
        · obtain ⟨k', rfl⟩ : ∃ k', k = k' + 1 := ⟨k - 1, by omega⟩
          show (if n = k' + 1 then _ else (some (⟨b, 0, none⟩ : Addr)).map fun x => x.add ((k' + 1) * 1)) = _
          rw [if_neg (by omega)]
          simp [spot_add]
        · have : (⟨b, 0, none⟩ : Addr).add k = ⟨b, k, none⟩ := by rw [spot_add, Nat.zero_add]
          rw [← this]; simpa using p1
        · have : (⟨b, 0, none⟩ : Addr).add k = ⟨b, k, none⟩ := by rw [spot_add, Nat.zero_add]
          rw [← this]
          exact next _ p2 (p3.trans ho)
      · have : k = n := by omega
        subst this
        rw [Nat.sub_self] at hp
        exact ⟨b, rfl, hu, by simpa using hp, ho⟩
  obtain ⟨p1, p2, p3⟩ := hpa.sets (i := 0) (ys := [x]) (by simp; omega) (a := ⟨b, 0, none⟩) rfl
  rw [add_zero] at p1 p2 p3
  refine ⟨cs, ⟨hrd, hcs.one⟩, .inr ⟨⟨b, 0, none⟩, rfl, ?_, ?_⟩⟩
  · rw [ecs]; exact p1
  · rw [ecs]
    refine key (n - 1) 1 rfl (Nat.le_refl _) (by omega) _ ?_ (p3.trans hoff)
    have e : over (List.replicate n (0 : Int)) 0 [x] = List.replicate 1 x ++ List.replicate (n - 1) 0 := by simp [over]
    rw [← e]; exact p2
end Go.Proofs.YtekiknmhlfiemaaDoor

namespace Go.Proofs.YtekiknmhlfiemaaDoor
open Go Go.Proofs.YtekiknmhlfiemaaDoor.GH

def atI (out : List Int) (n : Int) : Int := out.getD n.toNat 0
theorem atI_get {out : List Int} {n : Int} {x : Int} (h : out[n.toNat]? = some x) : atI out n = x := by unfold atI; rw [List.getD_eq_getElem?_getD, h]; rfl

def lenR (out : List Int) : List Sym → Int → Int
  | [], n => n
  | s :: ss, n => if s.term = true then lenR out ss (n + 1) else if atI out s.n < 0 then -1 else lenR out ss (n + atI out s.n)

theorem length_ro {L : GHeap} {sr so : Sl} {left : Int} {ss : List Sym} {out : List Int} (hs : IsSl rSym L sr ss) (ho : IsSl rI L so out) (hn : ∀ s ∈ ss, s.term = false → 0 ≤ s.n ∧ s.n < out.length) (hb : ∀ v ∈ out, v ≤ 1099511627776) (hl : ss.length ≤ 1024) :
    RO PP useful_length.id [.agg #[.int .i64 left, .slice sr.a sr.n sr.c], .slice so.a so.n so.c] L (.int .i64 (lenR out ss 0)) := by
  apply useful_length.go
  have key : ∀ i, i ≤ ss.length → ∀ n : Int, 0 ≤ n ∧ n ≤ i * 1099511627776 → lenR out ss 0 = lenR out (ss.drop i) n → useful_length.c3 (fun u L' => u = Value.int .i64 (lenR out ss 0) ∧ L' = L) so n sr ((sr.n : Nat) : Int) ((i : Nat) : Int) L := by
    refine down ?_ ?_
    · intro n hnb he
      rw [List.drop_length] at he
      apply useful_length.go3
      exact bcD (fun h => absurd h (by rw [hs.n]; omega)) fun _ => ⟨by rw [he]; rfl, rfl⟩
    · intro i hi ih n hnb he
      rw [List.drop_eq_getElem_cons hi] at he
      simp only [lenR] at he
      have next : ∀ n' : Int, 0 ≤ n' ∧ n' ≤ ((i + 1 : Nat) : Int) * 1099511627776 → lenR out ss 0 = lenR out (ss.drop (i + 1)) n' → useful_length.c10 (fun u L' => u = Value.int .i64 (lenR out ss 0) ∧ L' = L) so n' sr ((sr.n : Nat) : Int) ((i : Nat) : Int) L := by
        intro n' h1 h2
        apply useful_length.go10
        unfold useful_length.t10
        rw [add_one (by omega)]
        exact ih n' h1 h2
      apply useful_length.go3
      refine bcD (fun _ => ?_) fun h => absurd (by rw [hs.n]; omega) h
      refine hs.get (List.getElem?_eq_getElem hi) fun a cs hK hc => ?_
      obtain rfl := hK
      refine ⟨_, _, hc, bcI (fun ht => ?_) fun ht => ?_⟩
      · rw [if_pos ht] at he
        rw [w64_in (by omega) (by omega)]
        exact next _ ⟨by omega, by omega⟩ he
      · rw [if_neg (by rw [ht]; simp)] at he
        obtain ⟨h0, h1⟩ := hn _ (List.getElem_mem hi) ht
        have hlt : ss[i].n.toNat < out.length := by omega
        have hget := List.getElem?_eq_getElem hlt
        have ha := atI_get hget
        have hv := hb _ (List.getElem_mem hlt)
        rw [ha] at he
        refine ho.getI h0 hget fun a2 cs2 hK2 hc2 => ?_
        obtain rfl := hK2
        refine ⟨_, reads_one hc2, bcD (fun h => ⟨by rw [he, if_pos h], rfl⟩) fun h => ?_⟩
        rw [if_neg h] at he
        refine ho.getI h0 hget fun a3 cs3 hK3 hc3 => ?_
        obtain rfl := hK3
        refine ⟨_, reads_one hc3, ?_⟩
        rw [w64_in (by omega) (by omega)]
        exact next _ ⟨by omega, by omega⟩ he
  exact key 0 (Nat.zero_le _) 0 ⟨by omega, by omega⟩ rfl

/-! ### the law -/
def LSound (g : Gram) (out : List Int) : Prop := ∀ n : Nat, n < out.length → 0 ≤ atI out n → ∃ w, Ds g [⟨false, (n : Int)⟩] w ∧ (w.length : Int) = atI out n
def LClosed (g : Gram) (out : List Int) (r : Rule) : Prop := 0 ≤ lenR out r.right 0 → 0 ≤ atI out r.left ∧ atI out r.left ≤ lenR out r.right 0

theorem lenR_sound {g : Gram} {out : List Int} (h : LSound g out) : ∀ {ss : List Sym} {n : Int}, (∀ s ∈ ss, s.term = false → 0 ≤ s.n ∧ s.n < out.length) → 0 ≤ lenR out ss n → ∃ w, Ds g ss w ∧ n + w.length = lenR out ss n
  | [], n, _, _ => ⟨[], .nil, by simp [lenR]⟩
  | s :: ss, n, hs, hk => by
    obtain ⟨st, sn⟩ := s
    have hs' : ∀ s ∈ ss, s.term = false → 0 ≤ s.n ∧ s.n < out.length := fun s hm => hs s (List.mem_cons_of_mem _ hm)
    simp only [lenR] at hk ⊢
    cases st with
    | true =>
      rw [if_pos rfl] at hk ⊢
      obtain ⟨w, h1, h2⟩ := lenR_sound h hs' hk
      exact ⟨sn :: w, .term h1, by simp only [List.length_cons]; omega⟩
    | false =>
      rw [if_neg (by simp)] at hk ⊢
      obtain ⟨a1, a2⟩ := hs ⟨false, sn⟩ (List.mem_cons_self ..) rfl
      simp only at a1 a2
      by_cases hneg : atI out sn < 0
      · rw [if_pos hneg] at hk; omega
      · rw [if_neg hneg] at hk ⊢
        obtain ⟨w, h1, h2⟩ := lenR_sound h hs' hk
        have e : sn = ((sn.toNat : Nat) : Int) := by omega
        obtain ⟨u, g1, g2⟩ := h sn.toNat (by omega) (by rw [← e]; omega)
        rw [← e] at g1 g2
        refine ⟨u ++ w, g1.append h1, by rw [List.length_append]; omega⟩

theorem lenR_complete {g : Gram} {out : List Int} (hc : ∀ r ∈ g.rules, LClosed g out r) {ss : List Sym} {w : List Int} (hd : Ds g ss w) : ∀ n : Int, 0 ≤ n → 0 ≤ lenR out ss n ∧ lenR out ss n ≤ n + w.length := by
  induction hd with
  | nil => intro n hn; simp only [lenR, List.length_nil]; omega
  | term _ ih =>
    intro n hn
    simp only [lenR, List.length_cons, if_true]
    have := ih (n + 1) (by omega)
    omega
  | @non r ss u v hr _ _ ih1 ih2 =>
    intro n hn
    have h1 := ih1 0 (Int.le_refl _)
    have h2 := hc r hr h1.1
    simp only [lenR]
    rw [if_neg (by simp), if_neg (by omega)]
    have := ih2 (n + atI out r.left) (by omega)
    rw [List.length_append]
    omega

/-- Every value below a bound that grows with the number of values that are set. -/
def cntS (out : List Int) : Nat := out.countP fun v => decide (0 ≤ v)
def LBnd (out : List Int) : Prop := ∀ v ∈ out, v ≤ ((4 ^ (cntS out + 1) : Nat) : Int)

structure LenSpec (g : Gram) (out : List Int) : Prop where
  len : out.length = g.nons.toNat
  sound : LSound g out
  comp : ∀ (n : Int) (w : List Int), Ds g [⟨false, n⟩] w → 0 ≤ atI out n ∧ atI out n ≤ w.length
  bnd : LBnd out
  neg : ∀ v ∈ out, -1 ≤ v

def meas (out : List Int) : Nat := (out.map fun v => if v < 0 then 1073741824 else v.toNat).sum

theorem cntS_le (out : List Int) : cntS out ≤ out.length := List.countP_le_length
theorem pow4_le {k : Nat} (h : k ≤ 12) : 4 ^ k ≤ 16777216 := Nat.le_trans (Nat.pow_le_pow_right (n := 4) (by omega) h) (by decide)

theorem lenR_bound {out : List Int} {B : Int} (hB : 1 ≤ B) (hb : ∀ v ∈ out, v ≤ B) : ∀ {ss : List Sym} {n : Int}, (∀ s ∈ ss, s.term = false → 0 ≤ s.n ∧ s.n < out.length) → 0 ≤ n → lenR out ss n ≤ n + ss.length * B
  | [], n, _, _ => by simp [lenR]
  | s :: ss, n, hs, hn => by
    have hs' : ∀ s ∈ ss, s.term = false → 0 ≤ s.n ∧ s.n < out.length := fun s hm => hs s (List.mem_cons_of_mem _ hm)
    have e : ((List.length (s :: ss) : Nat) : Int) * B = ss.length * B + B := by rw [List.length_cons, Int.natCast_add, Int.add_mul]; simp
    have h0 : 0 ≤ (ss.length : Int) * B := Int.mul_nonneg (by omega) (by omega)
    simp only [lenR]
    rw [e]
    split
    · have := lenR_bound hB hb (n := n + 1) hs' (by omega); omega
    · rename_i ht
      obtain ⟨a1, a2⟩ := hs s (List.mem_cons_self ..) (by simpa using ht)
      split
      · omega
      · have hlt : s.n.toNat < out.length := by omega
        have := hb _ (List.getElem_mem hlt)
        rw [← atI_get (List.getElem?_eq_getElem hlt)] at this
        have := lenR_bound hB hb (n := n + atI out s.n) hs' (by omega)
        omega

theorem sum_set' {row : List Nat} : ∀ {i v : Nat} (h : i < row.length), (row.set i v).sum + row[i] = row.sum + v := by
  induction row with
  | nil => intro i v h; simp at h
  | cons x xs ih =>
    intro i v h
    cases i with
    | zero => simp; omega
    | succ i => have := ih (i := i) (v := v) (by simpa using h); simp only [List.set_cons_succ, List.sum_cons, List.getElem_cons_succ]; omega

theorem countP_set' {p : Int → Bool} : ∀ {xs : List Int} {i : Nat} {v : Int} (h : i < xs.length), (xs.set i v).countP p + (if p xs[i] = true then 1 else 0) = xs.countP p + (if p v = true then 1 else 0)
  | [], i, v, h => by simp at h
  | x :: xs, 0, v, _ => by simp only [List.set_cons_zero, List.countP_cons, List.getElem_cons_zero]; omega
  | x :: xs, i + 1, v, h => by
    have := countP_set' (p := p) (xs := xs) (i := i) (v := v) (by simpa using h)
    simp only [List.set_cons_succ, List.countP_cons, List.getElem_cons_succ]; omega

theorem atI_set {out : List Int} {i : Nat} {v : Int} (h : i < out.length) (n : Nat) : atI (out.set i v) n = if n = i then v else atI out n := by
  unfold atI
  rw [Int.toNat_natCast, List.getD_eq_getElem?_getD, List.getD_eq_getElem?_getD]
  by_cases e : n = i
  · subst e; rw [if_pos rfl, List.getElem?_set_self h]; rfl
  · rw [if_neg e, List.getElem?_set_ne (Ne.symm e)]

/-- The lengths so far. -/
structure LOk (g : Gram) (out : List Int) : Prop where
  len : out.length = g.nons.toNat
  sound : LSound g out
  bnd : LBnd out
  neg : ∀ v ∈ out, -1 ≤ v

theorem LOk.small {g : Gram} {out : List Int} (hv : Valid g) (h : LOk g out) : ∀ v ∈ out, v ≤ 16777216 := fun v hm => by
  have := h.bnd v hm
  have := cntS_le out
  have := h.len
  have := hv.nons
  have := pow4_le (k := cntS out + 1) (by omega)
  omega

/-- A rule gives a shorter length. -/
theorem LOk.set {g : Gram} {out : List Int} (hv : Valid g) (h : LOk g out) {r : Rule} (hr : r ∈ g.rules) (h0 : 0 ≤ lenR out r.right 0) (h1 : atI out r.left < 0 ∨ lenR out r.right 0 < atI out r.left) :
    LOk g (out.set r.left.toNat (lenR out r.right 0)) ∧ meas (out.set r.left.toNat (lenR out r.right 0)) < meas out := by
  obtain ⟨⟨hl, hrt⟩, hlen⟩ := hv.ok r hr
  have hol := h.len
  have hlt : r.left.toNat < out.length := by omega
  have e : r.left = ((r.left.toNat : Nat) : Int) := by omega
  have hat := atI_get (List.getElem?_eq_getElem hlt)
  have hn : ∀ s ∈ r.right, s.term = false → 0 ≤ s.n ∧ s.n < out.length := fun s hs ht => by have := hrt s hs; have := this.2.2 ht; exact ⟨by have := (hrt s hs).1; omega, by omega⟩
  have hsm := h.small hv
  obtain ⟨w, hw1, hw2⟩ := lenR_sound h.sound hn h0
  have hpos : 1 ≤ 4 ^ (cntS out + 1) := Nat.pow_pos (by omega)
  have hbd := lenR_bound (B := ((4 ^ (cntS out + 1) : Nat) : Int)) (by omega) h.bnd (n := 0) hn (by omega)
  have hbd2 : lenR out r.right 0 ≤ ((4 ^ (cntS out + 2) : Nat) : Int) := by
    have e2 : (4 : Nat) ^ (cntS out + 2) = 4 * 4 ^ (cntS out + 1) := by rw [show cntS out + 2 = (cntS out + 1) + 1 from rfl, Nat.pow_succ]; omega
    rw [e2]
    have : (r.right.length : Int) * ((4 ^ (cntS out + 1) : Nat) : Int) ≤ 4 * ((4 ^ (cntS out + 1) : Nat) : Int) := Int.mul_le_mul_of_nonneg_right (by omega) (by omega)
    omega
  have hcnt := countP_set' (p := fun v => decide (0 ≤ v)) (v := lenR out r.right 0) hlt
  have hpv : (decide (0 ≤ lenR out r.right 0)) = true := decide_eq_true h0
  rw [if_pos hpv] at hcnt
  refine ⟨⟨by rw [List.length_set]; exact hol, fun n hn' hnn => ?_, fun v hm => ?_, fun v hm => ?_⟩, ?_⟩
  · rw [List.length_set] at hn'
    rw [atI_set hlt] at hnn ⊢
    split at hnn
    · rename_i en
      rw [if_pos en]
      subst en
      refine ⟨w, ?_, by omega⟩
      have := Ds.non hr hw1 .nil
      rwa [List.append_nil, e] at this
    · rename_i en
      rw [if_neg en]
      exact h.sound n hn' hnn
  · have hmono : ∀ k, cntS out + 1 ≤ k → 4 ^ (cntS out + 1) ≤ 4 ^ k := fun k hk => Nat.pow_le_pow_right (by omega) hk
    rcases List.mem_or_eq_of_mem_set hm with hm | rfl
    · have hv1 := h.bnd v hm
      have hc : cntS out ≤ cntS (out.set r.left.toNat (lenR out r.right 0)) := by unfold cntS; split at hcnt <;> omega
      have := hmono (cntS (out.set r.left.toNat (lenR out r.right 0)) + 1) (by omega)
      omega
    · rcases h1 with h1 | h1
      · have hp0 : ¬ decide (0 ≤ out[r.left.toNat]) = true := by rw [← hat]; simpa using h1
        rw [if_neg hp0] at hcnt
        have : cntS (out.set r.left.toNat (lenR out r.right 0)) = cntS out + 1 := by unfold cntS; omega
        rw [this]; exact hbd2
      · have hp0 : decide (0 ≤ out[r.left.toNat]) = true := by rw [← hat]; exact decide_eq_true (by omega)
        rw [if_pos hp0] at hcnt
        have : cntS (out.set r.left.toNat (lenR out r.right 0)) = cntS out := by unfold cntS; omega
        rw [this]
        have := h.bnd _ (List.getElem_mem hlt)
        rw [← hat] at this
        omega
  · rcases List.mem_or_eq_of_mem_set hm with hm | rfl
    · exact h.neg v hm
    · omega
  · unfold meas
    rw [List.map_set]
    have := sum_set' (row := out.map fun v => if v < 0 then 1073741824 else v.toNat) (i := r.left.toNat) (v := if lenR out r.right 0 < 0 then 1073741824 else (lenR out r.right 0).toNat) (by simpa using hlt)
    simp only [List.getElem_map] at this
    rw [if_neg (show ¬ lenR out r.right 0 < 0 by omega)] at this ⊢
    have hcb : lenR out r.right 0 ≤ 67108864 := by
      have := cntS_le out
      have := hv.nons
      have := pow4_le (k := cntS out + 2) (by omega)
      omega
    rw [← hat] at this
    rcases h1 with h1 | h1
    · rw [if_pos h1] at this; omega
    · rw [if_neg (by omega)] at this; omega

def LPost (L : GHeap) (g : Gram) (v : Value) (L' : GHeap) : Prop := Le L L' ∧ ∃ (so : Sl) (out : List Int), v = .tuple #[.slice so.a so.n so.c, .int .i64 0] ∧ IsSl rI L' so out ∧ LenSpec g out

theorem Lengths_c6 {L : GHeap} {g : Gram} {sg so : Sl} {M : Nat → Prop} (hv : Valid g) (hs : IsSl rRule L sg g.rules) : ∀ (d : Nat) (out : List Int) (L2 : GHeap), meas out = d → LOk g out → PA (Value.int .i64) L L2 M so out → Le L (L2.off M) →
    useful_Lengths.c6 (LPost L g) so true g.terms g.nons g.start sg L2 := by
  intro d
  have hmany := hv.many
  induction d using Nat.strongRecOn with
  | ind d ih =>
    intro out0 L0 hd hok0 hpa0 hle0
    have loop : ∀ k, k ≤ g.rules.length → ∀ (out : List Int) (L2 : GHeap) (again : Bool), LOk g out → PA (Value.int .i64) L L2 M so out → Le L (L2.off M) → (again = true → meas out < meas out0) → (again = false → out = out0 ∧ ∀ k' r, k' < k → g.rules[k']? = some r → LClosed g out r) →
        useful_Lengths.c9 (LPost L g) so again sg ((sg.n : Nat) : Int) ((k : Nat) : Int) g.terms g.nons g.start sg L2 := by
      refine down ?_ ?_
      · intro out L2 again hok hpa hle h1 h2
        have hs2 := hs.mono (hpa.le hle).toLeM
        apply useful_Lengths.go9
        refine bcD (fun h => absurd h (by rw [hs2.n]; omega)) fun _ => ?_
        cases again with
        | true => exact ih _ (by have := h1 rfl; omega) out L2 rfl hok hpa hle
        | false =>
          obtain ⟨_, hcl⟩ := h2 rfl
          apply useful_Lengths.go6
          refine ⟨hpa.le hle, so, out, rfl, hpa.isInt, hok.len, hok.sound, fun n w hd => ?_, hok.bnd, hok.neg⟩
          have hc : ∀ r ∈ g.rules, LClosed g out r := fun r hr => let ⟨k, hk⟩ := List.getElem?_of_mem hr; hcl k r (List.getElem?_eq_some_iff.1 hk).1 hk
          have := lenR_complete hc hd 0 (Int.le_refl _)
          simp only [lenR] at this
          rw [if_neg (by simp)] at this
          by_cases hneg : atI out n < 0
          · rw [if_pos hneg] at this; omega
          · rw [if_neg hneg] at this; omega
      · intro k hk ihk out L2 again hok hpa hle h1 h2
        have hs2 := hs.mono (hpa.le hle).toLeM
        obtain ⟨⟨hl, hrt⟩, hlen⟩ := hv.ok _ (List.getElem_mem hk)
        have hol := hok.len
        have hnn := hv.nons
        have hlt : g.rules[k].left.toNat < out.length := by omega
        have hget := List.getElem?_eq_getElem hlt
        have hat := atI_get hget
        have el : g.rules[k].left = ((g.rules[k].left.toNat : Nat) : Int) := by omega
        have next : ∀ out' L3 again', LOk g out' → PA (Value.int .i64) L L3 M so out' → Le L (L3.off M) → (again' = true → meas out' < meas out0) → (again' = false → out' = out0 ∧ ∀ k' r, k' < k + 1 → g.rules[k']? = some r → LClosed g out' r) →
            useful_Lengths.c14 (LPost L g) so again' sg ((sg.n : Nat) : Int) ((k : Nat) : Int) g.terms g.nons g.start sg L3 := by
          intro out' L3 again' a1 a2 a3 a4 a5
          apply useful_Lengths.go14
          unfold useful_Lengths.t14
          rw [add_one (by omega)]
          exact ihk out' L3 again' a1 a2 a3 a4 a5
        have stay : LClosed g out g.rules[k] → useful_Lengths.c14 (LPost L g) so again sg ((sg.n : Nat) : Int) ((k : Nat) : Int) g.terms g.nons g.start sg L2 := fun hcl =>
          next out L2 again hok hpa hle h1 fun ha => ⟨(h2 ha).1, fun k' r hk' hr => by
            rcases Nat.lt_or_eq_of_le (Nat.le_of_lt_succ hk') with h | rfl
            · exact (h2 ha).2 k' r h hr
            · rw [List.getElem?_eq_getElem hk] at hr; cases hr; exact hcl⟩
        have isl : IsSl rI L2 so out := hpa.isInt
        apply useful_Lengths.go9
        refine bcD (fun _ => ?_) fun h => absurd (by rw [hs2.n]; omega) h
        refine hs2.get (List.getElem?_eq_getElem hk) fun a cs hK hc => ?_
        obtain ⟨sr, rfl, hsr⟩ := hK
        refine ⟨_, _, hc, (length_ro hsr isl (fun s hs ht => by have h3 := hrt s hs; have := h3.2.2 ht; exact ⟨h3.1, by omega⟩) (fun v hm => by have := hok.small hv v hm; omega) (by omega)).use ⟨_, rfl, bcD (fun h0 => ?_) fun h0 => stay fun h => absurd h h0⟩⟩
        have upd : (atI out g.rules[k].left < 0 ∨ lenR out g.rules[k].right 0 < atI out g.rules[k].left) → useful_Lengths.c13 (LPost L g) so (lenR out g.rules[k].right 0) sg ((sg.n : Nat) : Int) ((k : Nat) : Int) g.terms g.nons g.start sg g.rules[k].left sr L2 := fun hup => by
          obtain ⟨o1, o2⟩ := hok.set hv (List.getElem_mem hk) h0 hup
          apply useful_Lengths.go13
          unfold useful_Lengths.t13
          refine hpa.setI hl.1 hlt rfl fun L3 hpa3 hoff => ?_
          refine next _ L3 true o1 hpa3 (by rw [hoff]; exact hle) (fun _ => ?_) (fun h => by cases h)
          have : meas out ≤ meas out0 := by
            cases again with
            | true => exact Nat.le_of_lt (h1 rfl)
            | false => rw [(h2 rfl).1]; exact Nat.le_refl _
          omega
        refine isl.getI hl.1 hget fun a2 cs2 hK2 hc2 => ?_
        obtain rfl := hK2
        refine ⟨_, reads_one hc2, bcD (fun h => upd (.inl (by rw [hat]; exact h))) fun hn0 => ?_⟩
        refine isl.getI hl.1 hget fun a3 cs3 hK3 hc3 => ?_
        obtain rfl := hK3
        refine ⟨_, reads_one hc3, bcD (fun h => upd (.inr (by rw [hat]; exact h))) fun h => stay fun _ => ⟨by rw [hat]; omega, by rw [hat]; omega⟩⟩
    apply useful_Lengths.go6
    exact loop 0 (Nat.zero_le _) out0 L0 false hok0 hpa0 hle0 (fun h => by cases h) fun _ => ⟨rfl, fun k' r h => by omega⟩

theorem Lengths_spec {L : GHeap} {g : Gram} {sg : Sl} (hv : Valid g) (hs : IsSl rRule L sg g.rules) : ACalls PP useful_Lengths.id [gramV g sg] L (LPost L g) := by
  have hn := hv.nons
  apply useful_Lengths.go
  refine (Check_ro hs).use ⟨_, rfl, bcNE (fun h => absurd (chk_zero.2 hv) h) fun _ b15 h15 => ?_⟩
  simp only [inL]
  have l15 := Le.alloc h15 [.int .i64 (-1)] 1
  have s15 : IsSl rI (L.alloc b15 [.int .i64 (-1)] 1) ⟨some ⟨b15, 0, none⟩, 1, 1⟩ [-1] := IsSl.of_cells (cs := [.int .i64 (-1)]) (Cells.cons (c := [.int .i64 (-1)]) rfl .nil) rfl (Nat.le_refl _) alloc_reads
  have en : g.nons = ((g.nons.toNat : Nat) : Int) := by omega
  have hrep := Repeat_spec (n := g.nons.toNat) s15 ⟨by omega, by omega⟩
  rw [← en] at hrep
  refine hrep.mono ?_
  rintro v L2 ⟨b, rfl, hub, hpa, hoff⟩
  refine ⟨⟨some ⟨b, 0, none⟩, g.nons.toNat, g.nons.toNat⟩, rfl, ?_⟩
  refine Lengths_c6 hv hs _ (List.replicate g.nons.toNat (-1)) L2 rfl ⟨by simp, fun n hn' h => ?_, fun v hm => ?_, fun v hm => by rw [List.eq_of_mem_replicate hm]; omega⟩ (hpa.base fun c hc => by subst hc; exact l15.toLeM.unused hub) (by rw [hoff]; exact l15)
  · rw [List.length_replicate] at hn'
    have : atI (List.replicate g.nons.toNat (-1)) n = -1 := atI_get (by rw [Int.toNat_natCast, List.getElem?_replicate, if_pos hn'])
    omega
  · rw [List.eq_of_mem_replicate hm]; exact Int.le_trans (by omega) (Int.natCast_nonneg _)

/-! ### Ends, Null -/
theorem Null_spec {L : GHeap} {g : Gram} {sg : Sl} (hv : Valid g) (hs : IsSl rRule L sg g.rules) : ACalls PP first_Null.id [gramV g sg] L fun v L' => Le L L' ∧ ∃ (so : Sl) (out : List Int), v = .tuple #[.slice so.a so.n so.c, .int .i64 0] ∧ IsSl rB L' so (out.map fun k => k == 0) ∧ LenSpec g out := by
  have hn := hv.nons
  apply first_Null.go
  refine (Lengths_spec hv hs).mono ?_
  rintro v L1 ⟨hle, sl, out, rfl, hsl, hsp⟩
  refine ⟨sl, 0, rfl, bcNE (fun h => absurd rfl h) fun _ => ⟨⟨by omega, by omega, by omega⟩, fun b hu => ?_⟩⟩
  rw [Nat.mul_one]
  simp only [inL]
  obtain ⟨hpa, hoff⟩ := PA.new (f := Value.bool) (L0 := L) (z := false) (v := .bool false) (n := g.nons.toNat) rfl hu hle.toLeM (by omega)
  have hol := hsp.len
  have key : ∀ i, i ≤ out.length → ∀ L2, PA Value.bool L L2 (· = b) ⟨some ⟨b, 0, none⟩, g.nons.toNat, g.nons.toNat⟩ ((out.take i).map (fun k => k == 0) ++ List.replicate (out.length - i) false) → L2.off (· = b) = L1 →
      first_Null.c6 (fun v L' => Le L L' ∧ ∃ (so : Sl) (out : List Int), v = .tuple #[.slice so.a so.n so.c, .int .i64 0] ∧ IsSl rB L' so (out.map fun k => k == 0) ∧ LenSpec g out) ⟨some ⟨b, 0, none⟩, g.nons.toNat, g.nons.toNat⟩ sl ((sl.n : Nat) : Int) ((i : Nat) : Int) L2 := by
    refine down ?_ ?_
    · intro L2 hp ho
      rw [List.take_length, Nat.sub_self, List.replicate_zero, List.append_nil] at hp
      have hle2 : Le L L2 := hp.le (by rw [ho]; exact hle)
      apply first_Null.go6
      refine bcD (fun h => absurd h (by rw [hsl.n]; omega)) fun _ => ⟨hle2, _, out, rfl, hp.isBool, hsp⟩
    · intro i hi ih L2 hp ho
      apply first_Null.go6
      refine bcD (fun _ => ?_) fun h => absurd (by rw [hsl.n]; omega) h
      refine hsl.get (List.getElem?_eq_getElem hi) fun a cs hK hc => ?_
      obtain rfl := hK
      refine ⟨_, off_le.mem _ _ (by rw [ho]; exact reads_one hc), ?_⟩
      refine hp.set (i := i) (by simp; omega) (x := (out[i] == 0)) rfl fun L3 hp3 ho3 => ?_
      rw [add_one (by omega)]
      refine ih L3 ?_ (ho3.trans ho)
      have e : ((out.take i).map (fun k => k == 0) ++ List.replicate (out.length - i) false).set i (out[i] == 0) = (out.take (i + 1)).map (fun k => k == 0) ++ List.replicate (out.length - (i + 1)) false := by
        have e1 : i = ((out.take i).map (fun k => k == 0)).length := by simp; omega
        rw [show out.length - i = (out.length - (i + 1)) + 1 by omega]
        conv => lhs; arg 2; rw [e1]
        rw [set_append_right, List.take_succ_eq_append_getElem hi, List.map_append]
        simp [List.replicate_succ]
      rw [← e]; exact hp3
  exact key 0 (Nat.zero_le _) _ (by rw [hol]; simpa using hpa) hoff
end Go.Proofs.YtekiknmhlfiemaaDoor

