/- Contracts of the program's functions. -/
import Derived.Test.YtjmpheidcofhnaaDoorVAll1
import Derived.Test.YtjmpheidcofhnaaDoorCAll0
import Derived.Test.YtjmpheidcofhnaaDoorVAll0
import Derived.Test.YtjmpheidcofhnaaDoorLibD
set_option linter.all false
namespace Go.Proofs.YtjmpheidcofhnaaDoor
open Go Go.Proofs.YtjmpheidcofhnaaDoor.GH

/-- The right side of a rule. -/
def rt (g : Gram) (k : Int) : List Sym := (g.rules.getD k.toNat ⟨0, []⟩).right
theorem rt_get {g : Gram} {i : Nat} {r : Rule} (h : g.rules[i]? = some r) : rt g (i : Int) = r.right := by
  unfold rt; rw [Int.toNat_natCast, List.getD_eq_getElem?_getD, h]; rfl

/-- The places of the rules that satisfy a condition. -/
def whereI (p : Rule → Bool) : Nat → List Rule → List Int
  | _, [] => []
  | i, r :: rs => if p r = true then (i : Int) :: whereI p (i + 1) rs else whereI p (i + 1) rs

theorem whereI_succ {p : Rule → Bool} : ∀ {rs : List Rule} {k i : Nat} (h : i < rs.length), whereI p k (rs.take (i + 1)) = whereI p k (rs.take i) ++ (if p rs[i] = true then [((k + i : Nat) : Int)] else [])
  | r :: rs, k, 0, _ => by simp [whereI]
  | r :: rs, k, i + 1, h => by
    have := whereI_succ (p := p) (rs := rs) (k := k + 1) (i := i) (by simpa using h)
    simp only [List.take_succ_cons, whereI, List.getElem_cons_succ] at this ⊢
    rw [this, show k + 1 + i = k + (i + 1) by omega]
    split <;> simp

def whereE (g : Gram) (n : Int) : Int := if chk g ≠ 0 then chk g else if n < 0 then 1 else if n ≥ g.nons then 1 else 0

theorem whereI_length {p : Rule → Bool} : ∀ {rs : List Rule} {i : Nat}, (whereI p i rs).length ≤ rs.length
  | [], _ => Nat.le_refl _
  | r :: rs, i => by
    have := whereI_length (p := p) (rs := rs) (i := i + 1)
    simp only [whereI]; split <;> simp only [List.length_cons] <;> omega

/-- A closure that tests rules. -/
def TestFn (f : FuncId) (cap : List Value) (p : Rule → Bool) (L : GHeap) : Prop :=
  ∀ (r : Rule) (sr : Sl) (L' : GHeap), Le L L' → IsSl rSym L' sr r.right → RO PP f ([.agg #[.int .i64 r.left, .slice sr.a sr.n sr.c]] ++ cap) L' (.bool (p r))

theorem where_spec {L : GHeap} {g : Gram} {s : Sl} {n : Int} {f : FuncId} {cap : List Value} {p : Rule → Bool} (hs : IsSl rRule L s g.rules) (hf : TestFn f cap p L) :
    ACalls PP gram_where.id [gramV g s, .int .i64 n, .func (.func f) #[] (List.toArray cap)] L fun v L' => ∃ r : Sl, v = .tuple #[.slice r.a r.n r.c, .int .i64 (whereE g n)] ∧ Le L L' ∧ IsSl rI L' r (if whereE g n = 0 then whereI p 0 g.rules else []) := by
  apply gram_where.go
  refine (Check_ro hs).use ⟨_, rfl, bcNE (fun h => ?_) fun h => bcD (fun h1 => gram_where.go5 ?_) fun h1 => bcD (fun h2 => gram_where.go5 ?_) fun h2 => ?_⟩
  · have e : whereE g n = chk g := by simp [whereE, h]
    exact ⟨⟨none, 0, 0⟩, by rw [e], .refl L, by rw [e, if_neg h]; exact .nil _ _ _ _⟩
  · have e : whereE g n = 1 := by simp [whereE, h, h1]
    exact ⟨⟨none, 0, 0⟩, by rw [e], .refl L, by rw [e]; exact .nil _ _ _ _⟩
  · have e : whereE g n = 1 := by simp [whereE, h, h1, h2]
    exact ⟨⟨none, 0, 0⟩, by rw [e], .refl L, by rw [e]; exact .nil _ _ _ _⟩
  · have e : whereE g n = 0 := by simp [whereE, h, h1, h2]
    have hlen : g.rules.length ≤ 32 := (chk_zero.1 h).many
    simp only [e, if_true]
    have key : ∀ i, i ≤ g.rules.length → ∀ (L1 : GHeap) (out : Sl) (l : List Int), Le L L1 → Own L rI L1 out l → l.length ≤ i → l ++ whereI p i (g.rules.drop i) = whereI p 0 g.rules →
        gram_where.c8 (fun v L' => ∃ r : Sl, v = .tuple #[.slice r.a r.n r.c, .int .i64 0] ∧ Le L L' ∧ IsSl rI L' r (whereI p 0 g.rules)) f cap out s ((s.n : Nat) : Int) ((i : Nat) : Int) L1 := by
      refine down ?_ ?_
      · intro L1 out l hle ho hl he
        rw [List.drop_length, whereI, List.append_nil] at he
        apply gram_where.go8
        exact bcD (fun h => absurd h (by rw [hs.n]; omega)) fun _ => ⟨out, rfl, hle, by rw [← he]; exact ho.sl⟩
      · intro i hi ih L1 out l hle ho hl he
        rw [List.drop_eq_getElem_cons hi] at he
        simp only [whereI] at he
        have hnext : ∀ (L2 : GHeap) (out' : Sl) (l' : List Int), Le L L2 → Own L rI L2 out' l' → l'.length ≤ i + 1 → l' ++ whereI p (i + 1) (g.rules.drop (i + 1)) = whereI p 0 g.rules →
            gram_where.c12 (fun v L' => ∃ r : Sl, v = .tuple #[.slice r.a r.n r.c, .int .i64 0] ∧ Le L L' ∧ IsSl rI L' r (whereI p 0 g.rules)) f cap out' s ((s.n : Nat) : Int) ((i : Nat) : Int) L2 := by
          intro L2 out' l' g1 g2 g3 g4
          apply gram_where.go12
          unfold gram_where.t12
          rw [add_one (by omega)]
          exact ih L2 out' l' g1 g2 g3 g4
        apply gram_where.go8
        refine bcD (fun _ => ?_) fun h => absurd (by rw [hs.n]; omega) h
        refine (hs.mono hle.toLeM).get (List.getElem?_eq_getElem hi) fun a cs hK hc => ?_
        obtain ⟨sx, rfl, hx⟩ := hK
        refine ⟨_, _, hc, (hf g.rules[i] sx L1 hle hx).use ⟨_, rfl, bcI (fun hp => ?_) fun hp => ?_⟩⟩
        · rw [if_pos hp] at he
          refine Own.append (R := rI) (bytes := 8) (m := 1) (ys := [((i : Nat) : Int)]) ho hle (Cells.cons (c := [.int .i64 ((i : Nat) : Int)]) rfl .nil) rfl (.inl (by omega)) fun s' L' k1 _ k3 _ _ => ?_
          exact hnext L' s' _ k1 k3 (by simp; omega) (by rw [← he]; simp)
        · rw [if_neg (by rw [hp]; simp)] at he
          exact hnext L1 out l hle ho (by omega) he
    exact key 0 (Nat.zero_le _) L ⟨none, 0, 0⟩ [] (.refl L) (.nil _ _ _) (Nat.le_refl _) rfl

def ofL (g : Gram) (n : Int) : List Int := if whereE g n = 0 then whereI (fun r => r.left == n) 0 g.rules else []

theorem Of_spec {L : GHeap} {g : Gram} {s : Sl} {n : Int} (hs : IsSl rRule L s g.rules) :
    ACalls PP gram_Of.id [gramV g s, .int .i64 n] L fun v L' => ∃ r : Sl, v = .tuple #[.slice r.a r.n r.c, .int .i64 (whereE g n)] ∧ Le L L' ∧ IsSl rI L' r (ofL g n) := by
  apply gram_Of.go
  intro b hu
  simp only [inL]
  have hle : Le L (L.alloc b [.int .i64 n] 1) := Le.alloc hu _ _
  refine ⟨n, by rw [alloc_mem]; rfl, (where_spec (p := fun r => r.left == n) (hs.mono hle.toLeM) ?_).mono ?_⟩
  · intro r sr L' hl hr
    apply gram_Of_1.go
    exact ⟨n, hl.mem _ _ (by rw [alloc_mem]; rfl), rfl, rfl⟩
  · rintro v L' ⟨r, rfl, h1, h2⟩
    exact ⟨r, _, rfl, r, rfl, hle.trans h1, h2⟩

theorem mem_whereI {p : Rule → Bool} : ∀ {rs : List Rule} {k : Nat} {x : Int}, x ∈ whereI p k rs ↔ ∃ i r, rs[i]? = some r ∧ p r = true ∧ x = ((k + i : Nat) : Int)
  | [], k, x => by simp [whereI]
  | r :: rs, k, x => by
    have ih := mem_whereI (p := p) (rs := rs) (k := k + 1) (x := x)
    simp only [whereI]
    constructor
    · intro h
      have h' : (p r = true ∧ x = (k : Int)) ∨ x ∈ whereI p (k + 1) rs := by
        split at h
        · rename_i hp
          rcases List.mem_cons.1 h with h | h
          · exact .inl ⟨hp, h⟩
          · exact .inr h
        · exact .inr h
      rcases h' with ⟨hp, rfl⟩ | h'
      · exact ⟨0, r, rfl, hp, by simp⟩
      · obtain ⟨i, r', h1, h2, h3⟩ := ih.1 h'
        exact ⟨i + 1, r', by simpa using h1, h2, by rw [h3]; congr 1; omega⟩
    · rintro ⟨i, r', h1, h2, h3⟩
      cases i with
      | zero =>
        simp at h1; subst h1
        rw [if_pos h2, h3]; simp
      | succ i =>
        have : x ∈ whereI p (k + 1) rs := ih.2 ⟨i, r', by simpa using h1, h2, by rw [h3]; congr 1; omega⟩
        split
        · exact List.mem_cons_of_mem _ this
        · exact this

theorem whereI_nodup {p : Rule → Bool} : ∀ {rs : List Rule} {k : Nat}, (whereI p k rs).Nodup
  | [], _ => List.nodup_nil
  | r :: rs, k => by
    have ih := whereI_nodup (p := p) (rs := rs) (k := k + 1)
    simp only [whereI]; split
    · refine List.nodup_cons.2 ⟨fun h => ?_, ih⟩
      obtain ⟨i, _, _, _, h3⟩ := mem_whereI.1 h
      omega
    · exact ih
end Go.Proofs.YtjmpheidcofhnaaDoor

namespace Go.Proofs.YtjmpheidcofhnaaDoor
open Go Go.Proofs.YtjmpheidcofhnaaDoor.GH

theorem Mul_ro {x y : Int} {L : GHeap} (hx : 0 ≤ x ∧ x ≤ 65536) (hy : 0 ≤ y ∧ y ≤ 65536) : RO PP math_bits_Mul.id [.int .u64 x, .int .u64 y] L (.tuple #[.int .u64 0, .int .u64 (x * y)]) := by
  have hxy : 0 ≤ x * y ∧ x * y ≤ 4294967296 := ⟨Int.mul_nonneg hx.1 hy.1, Int.le_trans (Int.mul_le_mul hx.2 hy.2 hy.1 (by omega)) (by omega)⟩
  apply math_bits_Mul.go
  refine RO.use (v := .tuple #[.int .u64 0, .int .u64 (x * y)]) ?_ ⟨_, _, rfl, rfl, rfl⟩
  apply math_bits_Mul64.go
  have hd : ∀ z : Int, 0 ≤ z ∧ z ≤ 4294967295 → Int.fdiv z (2 ^ (min (Int.toNat (32 : Int)) 64)) = 0 := fun z hz => by
    rw [Int.fdiv_eq_ediv_of_nonneg _ (by decide)]
    exact Int.ediv_eq_zero_of_lt hz.1 (by show z < 4294967296; omega)
  have hm : ∀ z : Int, 0 ≤ z ∧ z ≤ 4294967295 → IntKind.wrap .u64 ((BitVec.toNat (BitVec.ofInt 64 z &&& BitVec.ofInt 64 (4294967295 : Int)) : Nat) : Int) = z := fun z hz => by
    obtain ⟨n, rfl⟩ := Int.eq_ofNat_of_zero_le hz.1
    have e1 : (BitVec.ofInt 64 ((n : Nat) : Int)).toNat = n := by rw [BitVec.ofInt_natCast, BitVec.toNat_ofNat]; exact Nat.mod_eq_of_lt (by omega)
    have e2 : (BitVec.ofInt 64 (4294967295 : Int)).toNat = 2 ^ 32 - 1 := by rfl
    rw [BitVec.toNat_and, e1, e2, Nat.and_two_pow_sub_one_eq_mod, Nat.mod_eq_of_lt (by omega)]
    exact IntWalk.u64_in _ ⟨by omega, by omega⟩
  have w0 : IntKind.wrap .u64 (0 : Int) = 0 := rfl
  have wxy := IntWalk.u64_in (x * y) ⟨by omega, by omega⟩
  refine ⟨by omega, by omega, by omega, by omega, by omega, ?_, rfl⟩
  have big : ∀ z : Int, 0 ≤ z ∧ z ≤ 4294967296 → Int.fdiv z (2 ^ (min (Int.toNat (32 : Int)) 64)) = if z = 4294967296 then 1 else 0 := fun z hz => by
    split
    · rename_i h; rw [h]; rfl
    · exact hd z ⟨hz.1, by omega⟩
  rw [hd x ⟨by omega, by omega⟩, hd y ⟨by omega, by omega⟩, hm x ⟨by omega, by omega⟩, hm y ⟨by omega, by omega⟩]
  simp only [Int.zero_mul, Int.mul_zero, w0, wxy, big (x * y) hxy, Int.zero_add]
  split <;> rfl

/-! ### Repeat -/
theorem Repeat_spec {L : GHeap} {s : Sl} {x : Int} {n : Nat} (hs : IsSl rI L s [x]) (hn : 0 < n ∧ n ≤ 65536) :
    ACalls PP slices_Repeat_int_int.id [.slice s.a s.n s.c, .int .i64 ((n : Nat) : Int)] L fun v L' => ∃ b, v = .slice (some ⟨b, 0, none⟩) n n ∧ L.unused b ∧ PA (Value.int .i64) L L' (· = b) ⟨some ⟨b, 0, none⟩, n, n⟩ (List.replicate n x) ∧ L'.off (· = b) = L := by
  have hsn := hs.n
  simp only [List.length_singleton] at hsn
  apply slices_Repeat_int_int.go
  unfold slices_Repeat_int_int.t
  rw [hsn, IntWalk.u64_in _ ⟨by omega, by omega⟩, IntWalk.u64_in _ ⟨by omega, by omega⟩]
  refine bcD (fun h => by omega) fun _ => (Mul_ro ⟨by omega, by omega⟩ ⟨by omega, by omega⟩).use ⟨_, _, rfl, bcD (fun h => by omega) fun _ => bcD (fun h => by omega) fun _ => ?_⟩
  have e : w64 (((1 : Nat) : Int) * ((n : Nat) : Int)) = ((n : Nat) : Int) := by rw [w64_in (by omega) (by omega)]; omega
  rw [e]
  refine ⟨⟨by omega, by omega, by omega⟩, fun b hu => ?_⟩
  rw [Int.toNat_natCast, Nat.mul_one]
  obtain ⟨hpa, hoff⟩ := PA.new (f := Value.int .i64) (L0 := L) (z := 0) (v := .int .i64 0) (n := n) rfl hu (LeM.refl L) hn.1
  simp only [inL]
  generalize L.alloc b (zeros n [.int .i64 0]) n = L1 at *
  have emin : Nat.min 1 n = 1 := Nat.min_eq_left hn.1
  rw [emin]
  have hle1 : Le L L1 := hpa.le (by rw [hoff]; exact .refl L)
  obtain ⟨cs, hcs, hrd⟩ := (hs.mono hle1.toLeM).cells
  rw [hsn] at hrd
  have ecs : cs = [.int .i64 x] := by
    cases hcs with
    | cons h1 h2 => cases h2; rw [List.append_nil]; exact h1
  have key : ∀ d k, n - k = d → 1 ≤ k → k ≤ n → ∀ L2, PA (Value.int .i64) L L2 (· = b) ⟨some ⟨b, 0, none⟩, n, n⟩ (List.replicate k x ++ List.replicate (n - k) 0) → L2.off (· = b) = L →
      slices_Repeat_int_int.c8 (fun v L' => ∃ b, v = .slice (some ⟨b, 0, none⟩) n n ∧ L.unused b ∧ PA (Value.int .i64) L L' (· = b) ⟨some ⟨b, 0, none⟩, n, n⟩ (List.replicate n x) ∧ L'.off (· = b) = L) ⟨some ⟨b, 0, none⟩, n, n⟩ ((k : Nat) : Int) L2 := by
    intro d
    induction d using Nat.strongRecOn with
    | ind d ih =>
      intro k hd hk1 hkn L2 hp ho
      apply slices_Repeat_int_int.go8
      dsimp only [slices_Repeat_int_int.t8]
      refine bcD (fun h => ?_) fun h => ?_
      · have h : k < n := by omega
        refine ⟨⟨by omega, by omega⟩, ⟨by omega, by omega⟩, ?_⟩
        rw [Int.toNat_natCast]
        generalize hm : Nat.min k (n - k) = m
        have hm1 : m ≤ k ∧ m ≤ n - k ∧ 0 < m := by
          have hm : min k (n - k) = m := hm
          omega
        have hrd2 := hp.reads (i := 0) (n := m) (by simp; omega) (a := ⟨b, 0, none⟩) rfl
        rw [add_zero] at hrd2
        have e1 : ((List.replicate k x ++ List.replicate (n - k) 0).drop 0).take m = List.replicate m x := by
          rw [List.drop_zero, List.take_append_of_le_length (by simp; omega), List.take_replicate, Nat.min_eq_left hm1.1]
        rw [e1] at hrd2
        obtain ⟨p1, p2, p3⟩ := hp.sets (i := k) (ys := List.replicate m x) (by simp; omega) (a := ⟨b, 0, none⟩) rfl
        have hcell : ((List.replicate m x).map (Value.int .i64)).all Value.oneCell' = true := by simp [Value.oneCell']
        have next : ∀ L3, PA (Value.int .i64) L L3 (· = b) ⟨some ⟨b, 0, none⟩, n, n⟩ (over (List.replicate k x ++ List.replicate (n - k) 0) k (List.replicate m x)) → L3.off (· = b) = L →
            slices_Repeat_int_int.c8 (fun v L' => ∃ b, v = .slice (some ⟨b, 0, none⟩) n n ∧ L.unused b ∧ PA (Value.int .i64) L L' (· = b) ⟨some ⟨b, 0, none⟩, n, n⟩ (List.replicate n x) ∧ L'.off (· = b) = L) ⟨some ⟨b, 0, none⟩, n, n⟩ (w64 (((k : Nat) : Int) + ((m : Nat) : Int))) L3 := by
          intro L3 h1 h2
          have ew : w64 (((k : Nat) : Int) + ((m : Nat) : Int)) = ((k + m : Nat) : Int) := by rw [w64_in (by omega) (by omega)]; omega
          rw [ew]
          refine ih (n - (k + m)) (by omega) (k + m) rfl (by omega) (by omega) L3 ?_ h2
          have : over (List.replicate k x ++ List.replicate (n - k) 0) k (List.replicate m x) = List.replicate (k + m) x ++ List.replicate (n - (k + m)) 0 := by
            unfold over
            rw [List.take_left' (by simp), List.length_replicate, List.replicate_append_replicate]
            congr 1
            rw [List.drop_append, List.drop_replicate, List.drop_replicate]
            simp; omega
          rw [← this]; exact h1
        refine ⟨(List.replicate m x).map (Value.int .i64), ⟨⟨by simp, hrd2⟩, hcell⟩, .inr ⟨⟨b, k, none⟩, ?_, ?_, ?_⟩⟩
        · obtain ⟨k', rfl⟩ : ∃ k', k = k' + 1 := ⟨k - 1, by omega⟩
          show (if n = k' + 1 then _ else (some (⟨b, 0, none⟩ : Addr)).map fun x => x.add ((k' + 1) * 1)) = _
          rw [if_neg (by omega)]
          simp [spot_add]
        · have : (⟨b, 0, none⟩ : Addr).add k = ⟨b, k, none⟩ := by rw [spot_add, Nat.zero_add]
          rw [← this]; simpa using p1
        · have : (⟨b, 0, none⟩ : Addr).add k = ⟨b, k, none⟩ := by rw [spot_add, Nat.zero_add]
          rw [← this]
          exact next _ p2 (p3.trans ho)
      · have : k = n := by omega
        subst this
        rw [Nat.sub_self] at hp
        exact ⟨b, rfl, hu, by simpa using hp, ho⟩
  obtain ⟨p1, p2, p3⟩ := hpa.sets (i := 0) (ys := [x]) (by simp; omega) (a := ⟨b, 0, none⟩) rfl
  rw [add_zero] at p1 p2 p3
  refine ⟨cs, ⟨hrd, hcs.one⟩, .inr ⟨⟨b, 0, none⟩, rfl, ?_, ?_⟩⟩
  · rw [ecs]; exact p1
  · rw [ecs]
    refine key (n - 1) 1 rfl (Nat.le_refl _) (by omega) _ ?_ (p3.trans hoff)
    have e : over (List.replicate n (0 : Int)) 0 [x] = List.replicate 1 x ++ List.replicate (n - 1) 0 := by simp [over]
    rw [← e]; exact p2
end Go.Proofs.YtjmpheidcofhnaaDoor

