/- GH, thirteenth part: data in the ghost heap. -/
import Derived.Test.YtkpncpcgkpadgaaGhL
set_option linter.all false
namespace Go.Proofs.Ytkpncpcgkpadgaa.GH
open Go

/-! ### choices -/
section
variable {X Y : Prop}
theorem bcI {b : Bool} (h1 : b = true → X) (h2 : b = false → Y) : bc b X Y := by
  cases b
  · exact h2 rfl
  · exact h1 rfl
theorem bcD {p : Prop} [Decidable p] (h1 : p → X) (h2 : ¬ p → Y) : bc (decide p) X Y := bcI (fun h => h1 (of_decide_eq_true h)) fun h => h2 (of_decide_eq_false h)
theorem bcE {α : Type} [BEq α] [LawfulBEq α] {a b : α} (h1 : a = b → X) (h2 : a ≠ b → Y) : bc (a == b) X Y := bcI (fun h => h1 (eq_of_beq h)) fun h => h2 (by intro e; subst e; simp at h)
theorem bcNE {α : Type} [BEq α] [LawfulBEq α] {a b : α} (h1 : a ≠ b → X) (h2 : a = b → Y) : bc (a != b) X Y := bcI (fun h => h1 (by intro e; subst e; simp at h)) fun h => h2 (by simpa using h)
theorem bcN {b : Bool} (h : bc b Y X) : bc (!b) X Y := by cases b <;> exact h
theorem bcT {b : Bool} (hb : b = true) (h : X) : bc b X Y := by subst hb; exact h
theorem bcF {b : Bool} (hb : b = false) (h : Y) : bc b X Y := by subst hb; exact h
end

/-! ### more is known -/
structure LeM (L L' : GHeap) : Prop where
  mem : ∀ a v, L.mem a = some v → L'.mem a = some v
  wr : ∀ a, L.wr a → L'.wr a
  obj : ∀ r o, L.obj r = some o → L'.obj r = some o
  w0 : L'.w0 = L.w0
  n0 : L'.n0 = L.n0

/-- More is known, and what was free is free. -/
structure Le (L L' : GHeap) : Prop extends LeM L L' where
  free : ∀ a, L.wr a → L.mem a = none → L'.mem a = none

theorem LeM.refl (L : GHeap) : LeM L L := ⟨fun _ _ h => h, fun _ h => h, fun _ _ h => h, rfl, rfl⟩
theorem LeM.trans {L L' L'' : GHeap} (h : LeM L L') (h' : LeM L' L'') : LeM L L'' :=
  ⟨fun a v e => h'.mem a v (h.mem a v e), fun a e => h'.wr a (h.wr a e), fun r o e => h'.obj r o (h.obj r o e), h'.w0.trans h.w0, h'.n0.trans h.n0⟩
theorem Le.refl (L : GHeap) : Le L L := ⟨.refl L, fun _ _ h => h⟩
theorem Le.trans {L L' L'' : GHeap} (h : Le L L') (h' : Le L' L'') : Le L L'' := ⟨h.toLeM.trans h'.toLeM, fun a e e' => h'.free a (h.wr a e) (h.free a e e')⟩

theorem mem_block {L : GHeap} {b : Nat} (h : L.unused b) {a : Addr} {v : Value} (hm : L.mem a = some v) : a.block ≠ b := fun e => by rw [(h.1 a e).1] at hm; cases hm
theorem wr_block {L : GHeap} {b : Nat} (h : L.unused b) {a : Addr} (hm : L.wr a) : a.block ≠ b := fun e => (h.1 a e).2 hm

theorem alloc_other {L : GHeap} {b : Nat} {cs : List Value} {n : Nat} {a : Addr} (h : a.block ≠ b) : (L.alloc b cs n).mem a = L.mem a ∧ ((L.alloc b cs n).wr a ↔ L.wr a) := by
  unfold GHeap.alloc; simp only; rw [if_neg h, if_neg h]; exact ⟨rfl, Iff.rfl⟩

theorem Le.alloc {L : GHeap} {b : Nat} (h : L.unused b) (cs : List Value) (n : Nat) : Le L (L.alloc b cs n) where
  mem a v e := by rw [(alloc_other (mem_block h e)).1]; exact e
  wr a e := (alloc_other (wr_block h e)).2.2 e
  free a e e' := by rw [(alloc_other (wr_block h e)).1]; exact e'
  obj _ _ e := e
  w0 := rfl
  n0 := rfl

theorem add_add (a : Addr) (m n : Nat) : (a.add m).add n = a.add (m + n) := by
  unfold Addr.add
  by_cases hm : m = 0
  · subst hm; simp
  · by_cases hn : n = 0
    · subst hn; simp
    · have : ¬ m + n = 0 := by omega
      simp only [if_neg hm, if_neg hn, if_neg this]
      congr 1; omega

theorem add_zero (a : Addr) : a.add 0 = a := by simp [Addr.add]

theorem reads_iff {L : GHeap} {a : Addr} : ∀ {cs : List Value} {i : Nat}, L.reads a i cs ↔ ∀ (j : Nat) (v : Value), cs[j]? = some v → L.mem (a.add (i + j)) = some v
  | [], i => ⟨fun _ j v h => by simp at h, fun _ => trivial⟩
  | c :: cs, i => by
    constructor
    · intro h j v hj
      exact reads_cell h j v hj
    · intro h
      refine ⟨by simpa using h 0 c rfl, reads_iff.2 fun j v hj => ?_⟩
      have := h (j + 1) v (by simpa using hj)
      rwa [show i + 1 + j = i + (j + 1) by omega]

theorem LeM.reads {L L' : GHeap} (h : LeM L L') {a : Addr} {i : Nat} {cs : List Value} (hr : L.reads a i cs) : L'.reads a i cs :=
  reads_iff.2 fun j v hj => h.mem _ _ (reads_iff.1 hr j v hj)

theorem reads_one {L : GHeap} {a : Addr} {v : Value} (h : L.reads a 0 [v]) : L.mem a = some v := by have := h.1; rwa [add_zero] at this

theorem alloc_mem {L : GHeap} {b : Nat} {cs : List Value} {n i : Nat} : (L.alloc b cs n).mem ⟨b, i, none⟩ = cs[i]? := by simp [GHeap.alloc]
theorem alloc_reads {L : GHeap} {b : Nat} {cs : List Value} {n : Nat} : (L.alloc b cs n).reads ⟨b, 0, none⟩ 0 cs :=
  reads_iff.2 fun j v hj => by rw [add_spot rfl]; simp only [Nat.zero_add]; rw [alloc_mem]; exact hj

/-! ### what a datum's cells hold -/
structure Rp (α : Type) where
  sz : Nat
  pos : 0 < sz
  K : GHeap → List Value → α → Prop
  len : ∀ {L cs x}, K L cs x → cs.length = sz
  one : ∀ {L cs x}, K L cs x → cs.all Value.oneCell' = true
  mono : ∀ {L L' cs x}, LeM L L' → K L cs x → K L' cs x

/-- A slice that reads as a list. -/
structure IsSl {α : Type} (R : Rp α) (L : GHeap) (s : Sl) (xs : List α) : Prop where
  n : s.n = xs.length
  c : s.n ≤ s.c
  at_ : ∀ (i : Nat) (x : α), xs[i]? = some x → ∃ a cs, s.a = some a ∧ R.K L cs x ∧ L.reads (a.add (i * R.sz)) 0 cs

theorem IsSl.mono {α : Type} {R : Rp α} {L L' : GHeap} {s : Sl} {xs : List α} (h : IsSl R L s xs) (hl : LeM L L') : IsSl R L' s xs :=
  ⟨h.n, h.c, fun i x hx => let ⟨a, cs, ha, hk, hr⟩ := h.at_ i x hx; ⟨a, cs, ha, R.mono hl hk, hl.reads hr⟩⟩

theorem IsSl.nil {α : Type} (R : Rp α) (L : GHeap) (a : Option Addr) (c : Nat) : IsSl R L ⟨a, 0, c⟩ [] := ⟨rfl, Nat.zero_le _, fun i x h => by simp at h⟩

/-- An element of a slice, read. -/
theorem IsSl.get {α : Type} {R : Rp α} {L : GHeap} {s : Sl} {xs : List α} (h : IsSl R L s xs) {i : Nat} {x : α} (hx : xs[i]? = some x) {k : Addr → Prop}
    (hk : ∀ a cs, R.K L cs x → L.reads (a.add (i * R.sz)) 0 cs → k a) : ptrK s.a fun a => (0 ≤ (i : Int) ∧ (i : Int) < ((s.n : Nat) : Int)) ∧ k a := by
  obtain ⟨a, cs, ha, hK, hr⟩ := h.at_ i x hx
  rw [ha]
  have hlt : i < xs.length := (List.getElem?_eq_some_iff.1 hx).1
  exact ⟨⟨by omega, by rw [h.n]; omega⟩, hk a cs hK hr⟩

def rInt (k : IntKind) : Rp Int := ⟨1, Nat.one_pos, fun _ cs x => cs = [.int k x], fun h => by rw [h]; rfl, fun h => by rw [h]; rfl, fun _ h => h⟩
abbrev rI : Rp Int := rInt .i64
def rB : Rp Bool := ⟨1, Nat.one_pos, fun _ cs x => cs = [.bool x], fun h => by rw [h]; rfl, fun h => by rw [h]; rfl, fun _ h => h⟩
def rStr : Rp ByteArray := ⟨1, Nat.one_pos, fun _ cs x => cs = [.string x], fun h => by rw [h]; rfl, fun h => by rw [h]; rfl, fun _ h => h⟩
def rS {α : Type} (R : Rp α) : Rp (List α) := ⟨1, Nat.one_pos, fun L cs x => ∃ s : Sl, cs = [.slice s.a s.n s.c] ∧ IsSl R L s x, fun ⟨_, h, _⟩ => by rw [h]; rfl, fun ⟨_, h, _⟩ => by rw [h]; rfl, fun hl ⟨s, h, hs⟩ => ⟨s, h, hs.mono hl⟩⟩

/-! ### less is told -/
structure Wk (L L' : GHeap) : Prop where
  mem : ∀ a v, L.mem a = some v → L'.mem a = some v
  wr : ∀ a, L.wr a → L'.wr a
  obj : ∀ r o, L.obj r = some o → L'.obj r = some o
  w0 : L.w0 = L'.w0
  n0 : L.n0 = L'.n0

theorem Inv.wk {L L' : GHeap} {B : Boxes} {w : World} (h : Inv L' B w) (k : Wk L L') : Inv L B w := by
  refine ⟨fun a v e => h.mem a v (k.mem a v e), fun a e => h.wr a (k.wr a e), fun a e => by rw [k.n0]; exact h.lo a (k.wr a e), fun r o e => h.obj r o (k.obj r o e), h.box, fun b cs e => ?_, fun b cs e => by rw [k.n0]; exact h.blo b cs e, by rw [k.n0, k.w0]; exact h.below, by rw [k.n0]; exact h.size, fun a e => h.pl a (k.wr a e)⟩
  obtain ⟨h1, h2⟩ := h.dis b cs e
  refine ⟨fun a ha => ⟨?_, fun hw => (h1 a ha).2 (k.wr a hw)⟩, ?_⟩
  · cases hm : L.mem a with
    | none => rfl
    | some v => have := (h1 a ha).1; rw [k.mem a v hm] at this; cases this
  · cases ho : L.obj b with
    | none => rfl
    | some o => rw [k.obj b o ho] at h2; cases h2

theorem ACalls.wk {P : Program} {f : FuncId} {args : List Value} {L : GHeap} {K K' : Value → GHeap → Prop} (h : ACalls P f args L K) (hk : ∀ v L', K v L' → ∃ L'', Wk L'' L' ∧ K' v L'') : ACalls P f args L K' :=
  ⟨h.1, fun B w hi => (h.2 B w hi).mono fun _ _ ⟨v, L', e, i, k⟩ => let ⟨L'', hw, k'⟩ := hk v L' k; ⟨v, L'', e, i.wk hw, k'⟩⟩

/-! ### a slice that grows -/
/-- A slice whose spare cells are free, in a block that was not there (in L0). -/
structure Own {α : Type} (L0 : GHeap) (R : Rp α) (L : GHeap) (s : Sl) (xs : List α) : Prop where
  sl : IsSl R L s xs
  spare : 0 < s.c → ∃ a, s.a = some a ∧ a.spot = none ∧ L0.unused a.block ∧ ¬ L.unused a.block ∧ ∀ i, s.n * R.sz ≤ i → i < s.c * R.sz → L.wr (a.add i) ∧ L.mem (a.add i) = none

theorem Own.nil {α : Type} (L0 : GHeap) (R : Rp α) (L : GHeap) : Own L0 R L ⟨none, 0, 0⟩ [] := ⟨.nil R L none 0, fun h => absurd h (Nat.lt_irrefl 0)⟩

/-- Two slices in two blocks. -/
def Sep (s t : Sl) : Prop := 0 < s.c → 0 < t.c → ∀ a b, s.a = some a → t.a = some b → a.block ≠ b.block

theorem Sep.symm {s t : Sl} (h : Sep s t) : Sep t s := fun h1 h2 a b ha hb he => h h2 h1 b a hb ha he.symm

theorem sets_mem : ∀ (vs : List Value) (L : GHeap) (x : Addr) (i : Nat) (a : Addr), (∀ j, j < vs.length → a ≠ x.add (i + j)) → (L.sets x i vs).mem a = L.mem a
  | [], _, _, _, _, _ => rfl
  | v :: vs, L, x, i, a, h => by
    unfold GHeap.sets
    rw [sets_mem vs (L.set (x.add i) v) x (i + 1) a (fun j hj => by have := h (j + 1) (by simpa using hj); rwa [show i + (j + 1) = i + 1 + j by omega] at this)]
    unfold GHeap.set
    simp only
    rw [if_neg (by have := h 0 (by simp); simpa using this)]

theorem add_inj {x : Addr} (hx : x.spot = none) {i j : Nat} (h : x.add i = x.add j) : i = j := by
  rw [add_spot hx, add_spot hx] at h
  injection h with _ h _
  omega

theorem sets_at : ∀ (vs : List Value) (L : GHeap) (x : Addr) (i : Nat), x.spot = none → ∀ (j : Nat) (v : Value), vs[j]? = some v → (L.sets x i vs).mem (x.add (i + j)) = some v
  | [], _, _, _, _, j, v, h => by simp at h
  | u :: vs, L, x, i, hx, 0, v, h => by
    simp at h; subst h
    unfold GHeap.sets
    rw [sets_mem vs _ x (i + 1) _ (fun j hj he => by have := add_inj hx he; omega)]
    simp [GHeap.set]
  | u :: vs, L, x, i, hx, j + 1, v, h => by
    unfold GHeap.sets
    have := sets_at vs (L.set (x.add i) u) x (i + 1) hx j v (by simpa using h)
    rwa [show i + (j + 1) = i + 1 + j by omega]

theorem sets_rest : ∀ (vs : List Value) (L : GHeap) (x : Addr) (i : Nat), (L.sets x i vs).wr = L.wr ∧ (L.sets x i vs).obj = L.obj ∧ (L.sets x i vs).w0 = L.w0 ∧ (L.sets x i vs).n0 = L.n0
  | [], _, _, _ => ⟨rfl, rfl, rfl, rfl⟩
  | v :: vs, L, x, i => by unfold GHeap.sets; exact sets_rest vs (L.set (x.add i) v) x (i + 1)

theorem may_of {L : GHeap} {x : Addr} : ∀ {n i : Nat}, (∀ j, j < n → L.wr (x.add (i + j))) → L.may x i n
  | 0, _, _ => trivial
  | n + 1, i, h => ⟨by have := h 0 (by omega); simpa using this, may_of fun j hj => by have := h (j + 1) (by omega); rwa [show i + (j + 1) = i + 1 + j by omega] at this⟩

/-- The cells of a list's elements, one behind the other. -/
inductive Cells {α : Type} (R : Rp α) (L : GHeap) : List Value → List α → Prop
  | nil : Cells R L [] []
  | cons {c cs x xs} : R.K L c x → Cells R L cs xs → Cells R L (c ++ cs) (x :: xs)

theorem Cells.length {α : Type} {R : Rp α} {L : GHeap} {cs : List Value} {xs : List α} (h : Cells R L cs xs) : cs.length = xs.length * R.sz := by
  induction h with
  | nil => simp
  | cons hk _ ih => rw [List.length_append, R.len hk, ih, List.length_cons, Nat.add_mul]; omega

theorem Cells.one {α : Type} {R : Rp α} {L : GHeap} {cs : List Value} {xs : List α} (h : Cells R L cs xs) : cs.all Value.oneCell' = true := by
  induction h with
  | nil => rfl
  | cons hk _ ih => rw [List.all_append, R.one hk, ih]; rfl

theorem Cells.mono {α : Type} {R : Rp α} {L L' : GHeap} {cs : List Value} {xs : List α} (h : Cells R L cs xs) (hl : LeM L L') : Cells R L' cs xs := by
  induction h with
  | nil => exact .nil
  | cons hk _ ih => exact .cons (R.mono hl hk) ih

theorem Cells.get {α : Type} {R : Rp α} {L : GHeap} {cs : List Value} {xs : List α} (h : Cells R L cs xs) : ∀ (i : Nat) (x : α), xs[i]? = some x → ∃ c, R.K L c x ∧ ∀ (j : Nat) (v : Value), c[j]? = some v → cs[i * R.sz + j]? = some v := by
  induction h with
  | nil => intro i x h; simp at h
  | @cons c cs x xs hk _ ih =>
    intro i y hi
    cases i with
    | zero =>
      simp at hi; subst hi
      refine ⟨c, hk, fun j v hj => ?_⟩
      have hlt := (List.getElem?_eq_some_iff.1 hj).1
      rw [Nat.zero_mul, Nat.zero_add, List.getElem?_append_left hlt]; exact hj
    | succ i =>
      obtain ⟨d, hd, hj⟩ := ih i y (by simpa using hi)
      refine ⟨d, hd, fun j v hv => ?_⟩
      have := hj j v hv
      rw [List.getElem?_append_right (by rw [R.len hk, Nat.add_mul]; omega), R.len hk]
      rw [show (i + 1) * R.sz + j - R.sz = i * R.sz + j by rw [Nat.add_mul]; omega]
      exact this

theorem Cells.append {α : Type} {R : Rp α} {L : GHeap} {cs ds : List Value} {xs ys : List α} (h : Cells R L cs xs) (h' : Cells R L ds ys) : Cells R L (cs ++ ds) (xs ++ ys) := by
  induction h with
  | nil => exact h'
  | cons hk _ ih => rw [List.append_assoc, List.cons_append]; exact .cons hk ih

/-- The cells of a slice. -/
theorem IsSl.cells {α : Type} {R : Rp α} {L : GHeap} {s : Sl} {xs : List α} (h : IsSl R L s xs) : ∃ cs, Cells R L cs xs ∧ readsSl L s.a (s.n * R.sz) cs := by
  have key : ∀ (n : Nat), n ≤ xs.length → ∃ cs, Cells R L cs (xs.take n) ∧ ∀ a, s.a = some a → L.reads a 0 cs := by
    intro n
    induction n with
    | zero => intro _; exact ⟨[], by simp; exact .nil, fun _ _ => trivial⟩
    | succ n ih =>
      intro hn
      obtain ⟨cs, hc, hr⟩ := ih (by omega)
      obtain ⟨a, ds, ha, hk, hd⟩ := h.at_ n xs[n] (List.getElem?_eq_getElem (by omega))
      refine ⟨cs ++ ds, ?_, fun a' ha' => ?_⟩
      · rw [List.take_succ_eq_append_getElem (by omega)]
        have : Cells R L ds [xs[n]] := by have := Cells.cons hk (Cells.nil (R := R) (L := L)); rwa [List.append_nil] at this
        exact hc.append this
      · rw [ha] at ha'; cases ha'
        refine reads_split (hr a ha) ?_
        rw [Nat.zero_add, hc.length, List.length_take, Nat.min_eq_left (by omega)]
        refine reads_iff.2 fun j v hj => ?_
        have := reads_iff.1 hd j v hj
        rwa [Nat.zero_add, add_add] at this
  obtain ⟨cs, hc, hr⟩ := key xs.length (Nat.le_refl _)
  rw [List.take_length] at hc
  refine ⟨cs, hc, by rw [hc.length, h.n], ?_⟩
  cases ha : s.a with
  | some a => exact hr a ha
  | none =>
    rw [h.n]
    cases xs with
    | nil => simp
    | cons x xs => obtain ⟨a, _, h1, _⟩ := h.at_ 0 x rfl; rw [ha] at h1; cases h1

/-- A slice whose cells lie in a row. -/
theorem IsSl.of_cells {α : Type} {R : Rp α} {L : GHeap} {a : Addr} {n c : Nat} {cs : List Value} {xs : List α} (hc : Cells R L cs xs) (hn : n = xs.length) (hle : n ≤ c) (hr : L.reads a 0 cs) : IsSl R L ⟨some a, n, c⟩ xs := by
  refine ⟨hn, hle, fun i x hx => ?_⟩
  obtain ⟨d, hd, hj⟩ := hc.get i x hx
  refine ⟨a, d, rfl, hd, reads_iff.2 fun j v hv => ?_⟩
  have := reads_iff.1 hr _ _ (hj j v hv)
  rw [Nat.zero_add] at this
  rw [Nat.zero_add, add_add]
  exact this

/-- An append to a slice of the call's own. -/
theorem Own.append {α : Type} {L0 L : GHeap} {R : Rp α} {s : Sl} {xs ys : List α} {bytes m : Nat} {cs : List Value} (h : Own L0 R L s xs) (hle : Le L0 L) (hc : Cells R L cs ys) (hm : ys.length = m)
    (hb : (xs.length + m) * bytes ≤ 140737488355328 ∨ ((s.c = 0 ∨ xs.length + m ≤ s.c) ∧ (xs.length + m) * bytes ≤ 281474976710656)) {k : Sl → GHeap → Prop}
    (hk : ∀ s' L', Le L0 L' → LeM L L' → Own L0 R L' s' (xs ++ ys) → s.c ≤ s'.c → (∀ {β : Type} (R' : Rp β) (t : Sl) (zs : List β), Own L0 R' L t zs → Sep s t → Own L0 R' L' t zs ∧ Sep s' t) → k s' L') :
    appendK R.sz bytes L s m cs k := by
  have hlen := hc.length
  rw [hm] at hlen
  have hsn := h.sl.n
  have hb1 : (s.n + m) * bytes ≤ 281474976710656 := by rw [hsn]; omega
  have hb2 : s.c < s.n + m → Builtin.nextslicecap (s.n + m) s.c * bytes ≤ 281474976710656 := by
    intro hlt
    rcases hb with hb | ⟨h0, hb⟩
    · have h1 := nextcap_le (need := s.n + m) (cap := s.c) hlt
      have h2 : Builtin.nextslicecap (s.n + m) s.c * bytes ≤ 2 * (s.n + m) * bytes := Nat.mul_le_mul_right _ h1
      have h3 : 2 * (s.n + m) * bytes = 2 * ((s.n + m) * bytes) := Nat.mul_assoc _ _ _
      rw [← hsn] at hb
      omega
    · rcases h0 with h0 | h0
      · have : Builtin.nextslicecap (s.n + m) s.c = s.n + m := by
          unfold Builtin.nextslicecap; rw [if_pos (by omega)]
        rw [this, hsn]; exact hb
      · omega
  refine ⟨⟨hb1, hb2⟩, fun hfit => ?_, fun hgrow => ?_⟩
  · by_cases hm0 : m = 0
    · refine .inl ⟨hm0, ?_⟩
      have : ys = [] := List.eq_nil_of_length_eq_zero (by omega)
      subst this
      refine hk s L hle (.refl L) (by rw [List.append_nil]; exact h) (Nat.le_refl _) (fun _ _ _ ho hs => ⟨ho, hs⟩)
    · obtain ⟨a, ha, hspot, hu0, hu, hfree⟩ := h.spare (by omega)
      have hmul : (s.n + m) * R.sz ≤ s.c * R.sz := Nat.mul_le_mul_right _ hfit
      rw [Nat.add_mul] at hmul
      have hin : ∀ j, j < cs.length → L.wr ((a.add (s.n * R.sz)).add (0 + j)) ∧ L.mem ((a.add (s.n * R.sz)).add (0 + j)) = none := by
        intro j hj
        rw [Nat.zero_add, add_add]
        exact hfree _ (by omega) (by omega)
      have hsp : (a.add (s.n * R.sz)).spot = none := by rw [add_spot hspot]
      refine .inr ⟨a, ha, may_of fun j hj => (hin j hj).1, ?_⟩
      obtain ⟨r1, r2, r3, r4⟩ := sets_rest cs L (a.add (s.n * R.sz)) 0
      have hother : ∀ x v, L.mem x = some v → (L.sets (a.add (s.n * R.sz)) 0 cs).mem x = some v := by
        intro x v hx
        rw [sets_mem cs L _ 0 x (fun j hj he => by rw [he, (hin j hj).2] at hx; cases hx)]; exact hx
      have hM : LeM L (L.sets (a.add (s.n * R.sz)) 0 cs) := ⟨hother, fun x hx => by rw [r1]; exact hx, fun r o ho => by rw [r2]; exact ho, r3, r4⟩
      have hblk : ∀ x : Addr, x.block ≠ a.block → (L.sets (a.add (s.n * R.sz)) 0 cs).mem x = L.mem x := fun x hx =>
        sets_mem cs L _ 0 x fun j hj he => hx (by rw [he, add_block, add_block])
      have hle' : Le L0 (L.sets (a.add (s.n * R.sz)) 0 cs) := ⟨hle.toLeM.trans hM, fun x hw hx => by rw [hblk x (wr_block hu0 hw)]; exact hle.free x hw hx⟩
      have hreads : (L.sets (a.add (s.n * R.sz)) 0 cs).reads (a.add (s.n * R.sz)) 0 cs := reads_iff.2 fun j v hj => sets_at cs L _ 0 hsp j v hj
      refine hk _ _ hle' hM ⟨⟨by simp only [List.length_append]; omega, hfit, fun i x hx => ?_⟩, fun _ => ⟨a, ha, hspot, hu0, ?_, fun i hi hi' => ?_⟩⟩ (Nat.le_refl _) (fun R' t zs ho hs => ?_)
      · by_cases hi : i < xs.length
        · rw [List.getElem?_append_left hi] at hx
          obtain ⟨b, ds, hb', hk', hr'⟩ := h.sl.at_ i x hx
          exact ⟨b, ds, hb', R.mono hM hk', hM.reads hr'⟩
        · rw [List.getElem?_append_right (by omega)] at hx
          obtain ⟨d, hd, hj⟩ := hc.get _ x hx
          refine ⟨a, d, ha, R.mono hM hd, reads_iff.2 fun j v hv => ?_⟩
          have := reads_iff.1 hreads _ _ (hj j v hv)
          rw [Nat.zero_add, add_add] at this
          rw [Nat.zero_add, add_add]
          rwa [show i * R.sz + j = s.n * R.sz + ((i - xs.length) * R.sz + j) by
            rw [hsn, ← Nat.add_assoc, ← Nat.add_mul]; congr 2; omega]
      · intro hun
        apply hu
        refine ⟨fun x hx => ?_, ?_⟩
        · have := hun.1 x hx
          refine ⟨?_, fun hw => this.2 (by rw [r1]; exact hw)⟩
          cases hm' : L.mem x with
          | none => rfl
          | some v => have h1 := this.1; rw [hother x v hm'] at h1; cases h1
        · have := hun.2; rwa [r2] at this
      · rw [Nat.add_mul] at hi
        have hf := hfree i (by omega) hi'
        refine ⟨by rw [r1]; exact hf.1, ?_⟩
        rw [sets_mem cs L _ 0 _ (fun j hj he => by rw [Nat.zero_add, add_add] at he; have := add_inj hspot he; omega)]
        exact hf.2
      · refine ⟨⟨ho.sl.mono hM, fun hc' => ?_⟩, fun h1 h2 x y hx hy => hs (by omega) h2 x y hx hy⟩
        obtain ⟨b, hb1, hb2, hb3, hb4, hb5⟩ := ho.spare hc'
        have hne : b.block ≠ a.block := fun he => hs (by omega) hc' a b ha hb1 he.symm
        refine ⟨b, hb1, hb2, hb3, fun hun => hb4 ⟨fun x hx => ?_, by have := hun.2; rwa [r2] at this⟩, fun i h1 h2 => ?_⟩
        · have := hun.1 x hx
          rw [hblk x (by rw [hx]; exact hne), r1] at this; exact this
        · have := hb5 i h1 h2
          rw [hblk _ (by rw [add_block]; exact hne), r1]; exact this
  · obtain ⟨old, hold, hrd⟩ := h.sl.cells
    refine ⟨old, hrd, fun b c' hu hc' => ?_⟩
    have hM : LeM L (L.alloc b (old ++ cs) (c' * R.sz)) := (Le.alloc hu _ _).toLeM
    have hu0 : L0.unused b := by
      refine ⟨fun x hx => ⟨?_, fun hw => (hu.1 x hx).2 (hle.wr x hw)⟩, ?_⟩
      · cases hm' : L0.mem x with
        | none => rfl
        | some v => have := (hu.1 x hx).1; rw [hle.mem x v hm'] at this; cases this
      · cases ho : L0.obj b with
        | none => rfl
        | some o => have := hu.2; rw [hle.obj b o ho] at this; cases this
    have hcells : Cells R (L.alloc b (old ++ cs) (c' * R.sz)) (old ++ cs) (xs ++ ys) := (hold.append hc).mono hM
    refine hk _ _ (hle.trans (Le.alloc hu _ _)) hM ⟨IsSl.of_cells hcells (by simp only [List.length_append]; omega) hc' alloc_reads, fun hpos => ⟨_, rfl, rfl, hu0, fun hun => ?_, fun i hi hi' => ?_⟩⟩ (by simp only; omega) (fun R' t zs ho hs => ?_)
    · have := (hun.1 ⟨b, 0, none⟩ rfl).2
      apply this
      unfold GHeap.alloc
      simp only [if_true]
      exact ⟨trivial, Nat.mul_pos hpos R.pos⟩
    · rw [add_spot rfl]
      simp only [Nat.zero_add]
      refine ⟨?_, ?_⟩
      · unfold GHeap.alloc; simp only [if_true]; exact ⟨trivial, hi'⟩
      · rw [alloc_mem]
        apply List.getElem?_eq_none
        rw [List.length_append, hold.length, hlen, ← Nat.add_mul, ← hsn]; exact hi
    · refine ⟨⟨ho.sl.mono hM, fun hc' => ?_⟩, fun h1 h2 x y hx hy he => ?_⟩
      · obtain ⟨d, hb1, hb2, hb3, hb4, hb5⟩ := ho.spare hc'
        have hne : d.block ≠ b := fun he => hb4 (he ▸ hu)
        refine ⟨d, hb1, hb2, hb3, fun hun => hb4 ⟨fun x hx => ?_, hun.2⟩, fun i h1 h2 => ?_⟩
        · have := hun.1 x hx
          have ha := alloc_other (L := L) (cs := old ++ cs) (n := c' * R.sz) (a := x) (b := b) (by rw [hx]; exact hne)
          rw [ha.1, ha.2] at this; exact this
        · have := hb5 i h1 h2
          have ha := alloc_other (L := L) (cs := old ++ cs) (n := c' * R.sz) (a := d.add i) (b := b) (by rw [add_block]; exact hne)
          rw [ha.1, ha.2]; exact this
      · cases hx
        obtain ⟨d, hb1, _, _, hb4, _⟩ := ho.spare h2
        rw [hy] at hb1; cases hb1
        exact hb4 (he ▸ hu)

/-! ### calls -/
/-- A call that only reads. -/
def RO (P : Program) (f : FuncId) (args : List Value) (L : GHeap) (v : Value) : Prop := ACalls P f args L fun u L' => u = v ∧ L' = L

theorem RO.use {P : Program} {f : FuncId} {args : List Value} {L : GHeap} {v : Value} {K : Value → GHeap → Prop} (h : RO P f args L v) (hk : K v L) : ACalls P f args L K :=
  h.mono fun _ _ ⟨h1, h2⟩ => by rw [h1, h2]; exact hk

end Go.Proofs.Ytkpncpcgkpadgaa.GH
