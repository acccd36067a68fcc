/- Contracts of the program's functions. -/
import Derived.Test.YtcnkbjipogngaaaDoorCAll12
import Derived.Test.YtcnkbjipogngaaaDoorCAll4
import Derived.Test.YtcnkbjipogngaaaDoorLibD
set_option linter.all false
namespace Go.Proofs.YtcnkbjipogngaaaDoor.NormS
open Go Go.Proofs.YtcnkbjipogngaaaDoor.GH NormC

theorem vs_iff {bs : List Bs} {nl : List Bool} {N : Nat} (hok : ∀ x ∈ bs, BsOk N x) {n : Nat} (hn : n < N) {out : List Bool} (h : Vs (Ed bs nl) (n : Int) (List.replicate N false) out) (b : Nat) :
    out.getD b false = true ↔ Vi (Ste bs nl) N (n : Int) (b : Int) := by
  have hrep : ∀ m : Nat, (List.replicate N false).getD m false = false := fun m => by
    rw [List.getD_eq_getElem?_getD, List.getElem?_replicate]; split <;> rfl
  have ed0 : ∀ {a b : Int}, Ed bs nl a b → 0 ≤ a ∧ a < N := by
    rintro a b ⟨x, hx, rfl, _⟩
    exact (hok x hx).left
  constructor
  · refine fun hb => h.snd (fun b => Vi (Ste bs nl) N (n : Int) b) (fun m hm => by rw [hrep] at hm; cases hm) (.one (.inl rfl)) (fun a b ha hab => ?_) b hb
    exact ha.trans (ed0 hab).1 (ed0 hab).2 (.one (.inr hab))
  · intro hv
    have one : ∀ {a b : Int}, Ste bs nl a b → out.getD a.toNat false = true → out.getD b.toNat false = true := by
      intro a b hab ha
      rcases hab with rfl | hab
      · exact ha
      · have h0 := ed0 hab
        obtain ⟨k, rfl⟩ := Int.eq_ofNat_of_zero_le h0.1
        rw [Int.toNat_natCast] at ha
        exact h.clo k ha (hrep k) b hab
    have key : ∀ {a b : Int}, Vi (Ste bs nl) N a b → out.getD a.toNat false = true → out.getD b.toNat false = true := by
      intro a b hab
      induction hab with
      | one he => exact one he
      | cons he _ _ _ ih => exact fun ha => ih (one he ha)
    have := key hv h.has
    rwa [Int.toNat_natCast] at this

theorem Leads_spec {L : GHeap} {bs : List Bs} {nl : List Bool} {N n : Nat} {T : Int} {sT sN : Sl} (hok : ∀ x ∈ bs, BsOk N x) (hbl : bs.length ≤ 1048576) (hN : N ≤ 1048576)
    (hT : IsSl (rS (rS rI)) L sT ((List.range N).map fun m : Nat => tosG bs (m : Int))) (hsN : IsSl rB L sN nl) (hnl : nl.length = N) (hn : n < N) :
    ACalls PP parlref2_Split_Leads.id [.agg #[.int .i64 (N : Int), .int .i64 T, .slice sT.a sT.n sT.c, .slice sN.a sN.n sN.c], .int .i64 (n : Int)] L fun v L' => Le L L' ∧ ∃ (so : Sl) (out : List Bool), v = .slice so.a so.n so.c ∧ IsSl rB L' so out ∧ out.length = N ∧ ∀ b : Nat, out.getD b false = true ↔ Vi (Ste bs nl) N (n : Int) (b : Int) := by
  apply parlref2_Split_Leads.go
  intro b2 hu2
  simp only [inL]
  have le2 := Le.alloc hu2 [.int .i64 (N : Int), .int .i64 T, .slice sT.a sT.n sT.c, .slice sN.a sN.n sN.c] 4
  have k2 : ∀ i v, [Value.int .i64 (N : Int), .int .i64 T, .slice sT.a sT.n sT.c, .slice sN.a sN.n sN.c][i]? = some v → (L.alloc b2 [.int .i64 (N : Int), .int .i64 T, .slice sT.a sT.n sT.c, .slice sN.a sN.n sN.c] 4).mem ⟨b2, i, none⟩ = some v := fun i v h => by rw [alloc_mem]; exact h
  generalize L.alloc b2 [.int .i64 (N : Int), .int .i64 T, .slice sT.a sT.n sT.c, .slice sN.a sN.n sN.c] 4 = L2 at *
  refine ⟨_, k2 0 _ rfl, ⟨by omega, by omega, by omega⟩, fun b9 hu9 => ?_⟩
  rw [Int.toNat_natCast, Nat.mul_one]
  obtain ⟨hpa, hoff⟩ := PA.new (f := Value.bool) (L0 := L) (z := false) (v := .bool false) (n := N) rfl hu9 le2.toLeM (by omega)
  generalize L2.alloc b9 (zeros N [.bool false]) N = L3 at *
  have lb9 : ∀ b, L3.unused b → ¬ (fun x => x = b9) b := fun b hu hb => hpa.live.not hu hb
  have hle03 : Le L L3 := hpa.le (by rw [hoff]; exact le2)
  intro b5 hu5
  obtain ⟨c1, c2, c3, c4⟩ := cell_new hu5 (.slice none 0 0) (.slice (some ⟨b9, 0, none⟩) N N)
  refine ⟨c1, ?_⟩
  have hpa5 := hpa.same (c4 _ (lb9 _ hu5))
  have n5 := lb9 _ hu5
  generalize (L3.alloc b5 [.slice none 0 0] 1).sets ⟨b5, 0, none⟩ 0 [.slice (some ⟨b9, 0, none⟩) N N] = L5 at *
  intro b6 hu6
  obtain ⟨d1, d2, d3, d4⟩ := cell_new hu6 .nilFunc (.func (.func parlref2_Split_Leads_1.id) #[] #[.pointer (some ⟨b5, 0, none⟩), .pointer (some ⟨b2, 0, none⟩), .pointer (some ⟨b6, 0, none⟩)])
  refine ⟨d1, ?_⟩
  have n6 : ¬ (fun x => x = b9) b6 := hpa5.live.not hu6
  have hpa6 := hpa5.same (d4 _ n6)
  have hle06 : Le L _ := (hle03.trans c3).trans d3
  generalize (L5.alloc b6 [.nilFunc] 1).sets ⟨b6, 0, none⟩ 0 [.func (.func parlref2_Split_Leads_1.id) #[] #[.pointer (some ⟨b5, 0, none⟩), .pointer (some ⟨b2, 0, none⟩), .pointer (some ⟨b6, 0, none⟩)]] = L6 at *
  have n2 : ∀ (b : Nat) (v : Value), L2.mem ⟨b, 0, none⟩ = some v → b ≠ b9 := fun b v h => mem_block (a := ⟨b, 0, none⟩) hu9 h
  have h23 : LeM L2 L3 := by rw [← hoff]; exact off_le
  have l26 : LeM L2 L6 := h23.trans (c3.trans d3).toLeM
  have n2' := n2 _ _ (k2 0 _ rfl)
  refine ⟨parlref2_Split_Leads_1.id, [.pointer (some ⟨b5, 0, none⟩), .pointer (some ⟨b2, 0, none⟩), .pointer (some ⟨b6, 0, none⟩)], d2, ?_⟩
  have hu0 : L.unused b9 := le2.toLeM.unused hu9
  have hleb : Le L (L6.off (· = b9)) := le_off hle06 fun c hc => by subst hc; exact hu0
  refine (leads_visit (bs := bs) (nl := nl) (N := N) (Lb := L6.off (· = b9)) (so := ⟨some ⟨b9, 0, none⟩, N, N⟩) (sT := sT) (sN := sN) (t1 := ⟨b5, 0, none⟩) (t2 := ⟨b2, 0, none⟩) (t3 := ⟨b6, 0, none⟩) hok hbl hN
    (by rw [off_mem n5]; exact d3.mem _ _ c2) (by rw [spot_add, off_mem n2']; exact l26.mem _ _ (k2 2 _ rfl)) (by rw [spot_add, off_mem n2']; exact l26.mem _ _ (k2 3 _ rfl)) (by rw [off_mem n6]; exact d2)
    (hT.mono hleb.toLeM) (hsN.mono hleb.toLeM) hnl _ _ L6 (n : Int) rfl (List.length_replicate ..) rfl hpa6 (by omega) (by omega)).mono ?_
  rintro v L7 ⟨rfl, hoff7, out', hpa7, hvis⟩
  refine ⟨rfl, ⟨some ⟨b9, 0, none⟩, N, N⟩, ?_, hpa7.le (by rw [hoff7]; exact hleb), _, out', rfl, hpa7.isBool, by rw [hvis.len, List.length_replicate], vs_iff hok hn hvis⟩
  have h7 : (L7.off (· = b9)).mem ⟨b5, 0, none⟩ = some (.slice (some ⟨b9, 0, none⟩) N N) := by rw [hoff7, off_mem n5]; exact d3.mem _ _ c2
  rwa [off_mem n5] at h7
end Go.Proofs.YtcnkbjipogngaaaDoor.NormS

namespace Go.Proofs.YtcnkbjipogngaaaDoor.GH
open Go Go.Sort

/-! ### 3 cells -/
def cSP {α : Type} (vl : α → Int × Int × Int) (x : α) : List Value := [.int .i64 (vl x).1, .int .i64 (vl x).2.1, .int .i64 (vl x).2.2]
theorem cSP_len {α : Type} {vl : α → Int × Int × Int} (x : α) : (cSP vl x).length = 3 := rfl

structure SP {α : Type} (vl : α → Int × Int × Int) (L0 H : GHeap) (M : Nat → Prop) (s : Sl) (L : GHeap) (d : Array α) : Prop where
  pa : PG (cSP vl) 3 L0 L M s d.toList
  off : L.off M = H

structure SPc {α : Type} (vl : α → Int × Int × Int) (L0 H : GHeap) (M : Nat → Prop) (s : Sl) (C : Value → Prop) (b : Nat) (L : GHeap) (d : Array α) : Prop where
  pa : PG (cSP vl) 3 L0 L M s d.toList
  off : L.off (fun x => M x ∨ x = b) = H
  nb : ¬ M b
  cl : Cl C b L

section
variable {α : Type} [Inhabited α] {vl : α → Int × Int × Int} {L0 H L : GHeap} {M : Nat → Prop} {s : Sl} {d : Array α} {C : Value → Prop} {b : Nat}

theorem SP.n (h : SP vl L0 H M s L d) : s.n = d.size := by rw [h.pa.n]; simp

theorem SP.rd (h : SP vl L0 H M s L d) {i : Nat} (hi : i < d.size) {k : Int → Int → Int → Prop} (hk : k (vl d[i]!).1 (vl d[i]!).2.1 (vl d[i]!).2.2) :
    ptrK s.a fun a => (0 ≤ ((i : Nat) : Int) ∧ ((i : Nat) : Int) < ((s.n : Nat) : Int)) ∧ ∃ v0 : Int, ∃ v1 : Int, ∃ v2 : Int,  L.reads (a.add (Int.toNat ((i : Nat) : Int) * 3)) 0 [.int .i64 v0, .int .i64 v1, .int .i64 v2] ∧ k v0 v1 v2 :=
  h.pa.get cSP_len (arr_get hi) fun _ ha => ⟨_, _, _, ha, hk⟩

theorem SP.swap (h : SP vl L0 H M s L d) {i j : Nat} (hi : i < d.size) (hj : j < d.size) {k : GHeap → Prop} (hk : ∀ L', SP vl L0 H M s L' (swp d i j) → k L') :
    ptrK s.a fun x1 => (0 ≤ ((j : Nat) : Int) ∧ ((j : Nat) : Int) < ((s.n : Nat) : Int)) ∧ ∃ v0 : Int, ∃ v1 : Int, ∃ v2 : Int,  L.reads (x1.add (Int.toNat ((j : Nat) : Int) * 3)) 0 [.int .i64 v0, .int .i64 v1, .int .i64 v2] ∧
    ptrK s.a fun x2 => (0 ≤ ((i : Nat) : Int) ∧ ((i : Nat) : Int) < ((s.n : Nat) : Int)) ∧ ∃ w0 : Int, ∃ w1 : Int, ∃ w2 : Int,  L.reads (x2.add (Int.toNat ((i : Nat) : Int) * 3)) 0 [.int .i64 w0, .int .i64 w1, .int .i64 w2] ∧
    ptrK s.a fun x3 => (0 ≤ ((i : Nat) : Int) ∧ ((i : Nat) : Int) < ((s.n : Nat) : Int)) ∧ L.may (x3.add (Int.toNat ((i : Nat) : Int) * 3)) 0 3 ∧ inL (L.sets (x3.add (Int.toNat ((i : Nat) : Int) * 3)) 0 [.int .i64 v0, .int .i64 v1, .int .i64 v2]) fun L =>
    ptrK s.a fun x4 => (0 ≤ ((j : Nat) : Int) ∧ ((j : Nat) : Int) < ((s.n : Nat) : Int)) ∧ L.may (x4.add (Int.toNat ((j : Nat) : Int) * 3)) 0 3 ∧ inL (L.sets (x4.add (Int.toNat ((j : Nat) : Int) * 3)) 0 [.int .i64 w0, .int .i64 w1, .int .i64 w2]) k := by
  refine h.pa.get cSP_len (arr_get hj) fun _ ha => ⟨_, _, _, ha, h.pa.get cSP_len (arr_get hi) fun _ hb => ⟨_, _, _, hb, ?_⟩⟩
  refine h.pa.set cSP_len (i := i) (by simpa using hi) (y := d[j]!) rfl fun L1 h1 o1 => ?_
  refine h1.set cSP_len (i := j) (by simpa using hj) (y := d[i]!) rfl fun L2 h2 o2 => ?_
  refine hk L2 ⟨?_, o2.trans (o1.trans h.off)⟩
  rw [swp_list]; exact h2

theorem SP.call {P : Program} {f : FuncId} {args : List Value} {v : Value} (h : SP vl L0 H M s L d) (hr : RO P f args H v) : RO P f args L v := RO.beside (h.pa.live (by decide)) h.off hr

theorem SP.cell (h : SP vl L0 H M s L d) {b : Nat} (hu : L.unused b) (cs : List Value) (t : Nat) : SP vl L0 (H.alloc b cs t) M s (L.alloc b cs t) d ∧ ¬ M b := by
  have hb : ¬ M b := (h.pa.live (by decide)).not hu
  exact ⟨⟨h.pa.same (SameOn.alloc hb), by rw [off_alloc hb, h.off]⟩, hb⟩

theorem SPc.live (h : SPc vl L0 H M s C b L d) : Live (fun x => M x ∨ x = b) L := fun x hx => by
  rcases hx with hx | hx
  · exact h.pa.live (by decide) x hx
  · exact ⟨⟨b, 0, none⟩, hx.symm, h.cl.wr⟩
theorem SPc.n (h : SPc vl L0 H M s C b L d) : s.n = d.size := by rw [h.pa.n]; simp
theorem SPc.rd (h : SPc vl L0 H M s C b L d) {i : Nat} (hi : i < d.size) {k : Int → Int → Int → Prop} (hk : k (vl d[i]!).1 (vl d[i]!).2.1 (vl d[i]!).2.2) :
    ptrK s.a fun a => (0 ≤ ((i : Nat) : Int) ∧ ((i : Nat) : Int) < ((s.n : Nat) : Int)) ∧ ∃ v0 : Int, ∃ v1 : Int, ∃ v2 : Int,  L.reads (a.add (Int.toNat ((i : Nat) : Int) * 3)) 0 [.int .i64 v0, .int .i64 v1, .int .i64 v2] ∧ k v0 v1 v2 :=
  h.pa.get cSP_len (arr_get hi) fun _ ha => ⟨_, _, _, ha, hk⟩
theorem SPc.call {P : Program} {f : FuncId} {args : List Value} {v : Value} (h : SPc vl L0 H M s C b L d) (hr : RO P f args H v) : RO P f args L v := RO.beside h.live h.off hr

theorem SP.open (h : SP vl L0 H M s L d) {b : Nat} (hu : L.unused b) {v : Value} (hv : C v) : SPc vl L0 H M s C b (L.alloc b [v] 1) d := by
  have hb : ¬ M b := (h.pa.live (by decide)).not hu
  refine ⟨h.pa.same (SameOn.alloc hb), by rw [alloc_off hu, h.off], hb, ⟨v, by rw [alloc_mem]; rfl, hv⟩, ?_⟩
  unfold GHeap.alloc; simp only [if_true]; exact ⟨trivial, by omega⟩
theorem SPc.close (h : SPc vl L0 H M s C b L d) : SP vl L0 H M s (L.off (· = b)) d := by
  refine ⟨h.pa.offd fun x hx hb => h.nb (by rw [← hb]; exact hx), ?_⟩
  rw [off_off]; exact h.off

theorem SPc.put (h : SPc vl L0 H M s C b L d) {v : Value} (hv : C v) : L.may ⟨b, 0, none⟩ 0 1 ∧ SPc vl L0 H M s C b (L.sets ⟨b, 0, none⟩ 0 [v]) d := by
  refine ⟨⟨by rw [add_zero]; exact h.cl.wr, trivial⟩, ?_⟩
  rw [sets_one]
  refine ⟨h.pa.same (M := M) ?_, ?_, h.nb, ⟨v, by unfold GHeap.set; simp, hv⟩, h.cl.wr⟩
  · rw [← sets_one]
    exact SameOn.sets h.nb
  · rw [off_set (M := fun x => M x ∨ x = b) (.inr rfl)]; exact h.off

theorem SPc.swap (h : SPc vl L0 H M s C b L d) {i j : Nat} (hi : i < d.size) (hj : j < d.size) {k : GHeap → Prop} (hk : ∀ L', SPc vl L0 H M s C b L' (swp d i j) → k L') :
    ptrK s.a fun x1 => (0 ≤ ((j : Nat) : Int) ∧ ((j : Nat) : Int) < ((s.n : Nat) : Int)) ∧ ∃ v0 : Int, ∃ v1 : Int, ∃ v2 : Int,  L.reads (x1.add (Int.toNat ((j : Nat) : Int) * 3)) 0 [.int .i64 v0, .int .i64 v1, .int .i64 v2] ∧
    ptrK s.a fun x2 => (0 ≤ ((i : Nat) : Int) ∧ ((i : Nat) : Int) < ((s.n : Nat) : Int)) ∧ ∃ w0 : Int, ∃ w1 : Int, ∃ w2 : Int,  L.reads (x2.add (Int.toNat ((i : Nat) : Int) * 3)) 0 [.int .i64 w0, .int .i64 w1, .int .i64 w2] ∧
    ptrK s.a fun x3 => (0 ≤ ((i : Nat) : Int) ∧ ((i : Nat) : Int) < ((s.n : Nat) : Int)) ∧ L.may (x3.add (Int.toNat ((i : Nat) : Int) * 3)) 0 3 ∧ inL (L.sets (x3.add (Int.toNat ((i : Nat) : Int) * 3)) 0 [.int .i64 v0, .int .i64 v1, .int .i64 v2]) fun L =>
    ptrK s.a fun x4 => (0 ≤ ((j : Nat) : Int) ∧ ((j : Nat) : Int) < ((s.n : Nat) : Int)) ∧ L.may (x4.add (Int.toNat ((j : Nat) : Int) * 3)) 0 3 ∧ inL (L.sets (x4.add (Int.toNat ((j : Nat) : Int) * 3)) 0 [.int .i64 w0, .int .i64 w1, .int .i64 w2]) k := by
  refine SP.swap (H := L.off M) ⟨h.pa, rfl⟩ hi hj fun L' h' => hk L' ?_
  have e := h'.off
  have hb : (⟨b, 0, none⟩ : Addr).block = b := rfl
  refine ⟨h'.pa, ?_, h.nb, ?_, ?_⟩
  · have : (L'.off M).off (· = b) = (L.off M).off (· = b) := by rw [e]
    rw [off_off, off_off] at this
    have e2 : (fun x => x = b ∨ M x) = fun x => M x ∨ x = b := by funext x; exact propext ⟨fun h => h.symm, fun h => h.symm⟩
    rw [e2] at this
    rw [this]; exact h.off
  · obtain ⟨v, hv, hc⟩ := h.cl.mem
    refine ⟨v, ?_, hc⟩
    have := congrArg (fun H => H.mem ⟨b, 0, none⟩) e
    simp only [off_mem (a := (⟨b, 0, none⟩ : Addr)) h.nb] at this
    rw [this]; exact hv
  · have h1 : (L'.off M).wr ⟨b, 0, none⟩ := by rw [e]; exact ⟨h.nb, h.cl.wr⟩
    exact h1.2
end

/-! ### 2 cells -/
def cSQ {α : Type} (vl : α → Int × Int) (x : α) : List Value := [.int .i64 (vl x).1, .int .i64 (vl x).2]
theorem cSQ_len {α : Type} {vl : α → Int × Int} (x : α) : (cSQ vl x).length = 2 := rfl

structure SQ {α : Type} (vl : α → Int × Int) (L0 H : GHeap) (M : Nat → Prop) (s : Sl) (L : GHeap) (d : Array α) : Prop where
  pa : PG (cSQ vl) 2 L0 L M s d.toList
  off : L.off M = H

structure SQc {α : Type} (vl : α → Int × Int) (L0 H : GHeap) (M : Nat → Prop) (s : Sl) (C : Value → Prop) (b : Nat) (L : GHeap) (d : Array α) : Prop where
  pa : PG (cSQ vl) 2 L0 L M s d.toList
  off : L.off (fun x => M x ∨ x = b) = H
  nb : ¬ M b
  cl : Cl C b L

section
variable {α : Type} [Inhabited α] {vl : α → Int × Int} {L0 H L : GHeap} {M : Nat → Prop} {s : Sl} {d : Array α} {C : Value → Prop} {b : Nat}

theorem SQ.n (h : SQ vl L0 H M s L d) : s.n = d.size := by rw [h.pa.n]; simp

theorem SQ.rd (h : SQ vl L0 H M s L d) {i : Nat} (hi : i < d.size) {k : Int → Int → Prop} (hk : k (vl d[i]!).1 (vl d[i]!).2) :
    ptrK s.a fun a => (0 ≤ ((i : Nat) : Int) ∧ ((i : Nat) : Int) < ((s.n : Nat) : Int)) ∧ ∃ v0 : Int, ∃ v1 : Int,  L.reads (a.add (Int.toNat ((i : Nat) : Int) * 2)) 0 [.int .i64 v0, .int .i64 v1] ∧ k v0 v1 :=
  h.pa.get cSQ_len (arr_get hi) fun _ ha => ⟨_, _, ha, hk⟩

theorem SQ.swap (h : SQ vl L0 H M s L d) {i j : Nat} (hi : i < d.size) (hj : j < d.size) {k : GHeap → Prop} (hk : ∀ L', SQ vl L0 H M s L' (swp d i j) → k L') :
    ptrK s.a fun x1 => (0 ≤ ((j : Nat) : Int) ∧ ((j : Nat) : Int) < ((s.n : Nat) : Int)) ∧ ∃ v0 : Int, ∃ v1 : Int,  L.reads (x1.add (Int.toNat ((j : Nat) : Int) * 2)) 0 [.int .i64 v0, .int .i64 v1] ∧
    ptrK s.a fun x2 => (0 ≤ ((i : Nat) : Int) ∧ ((i : Nat) : Int) < ((s.n : Nat) : Int)) ∧ ∃ w0 : Int, ∃ w1 : Int,  L.reads (x2.add (Int.toNat ((i : Nat) : Int) * 2)) 0 [.int .i64 w0, .int .i64 w1] ∧
    ptrK s.a fun x3 => (0 ≤ ((i : Nat) : Int) ∧ ((i : Nat) : Int) < ((s.n : Nat) : Int)) ∧ L.may (x3.add (Int.toNat ((i : Nat) : Int) * 2)) 0 2 ∧ inL (L.sets (x3.add (Int.toNat ((i : Nat) : Int) * 2)) 0 [.int .i64 v0, .int .i64 v1]) fun L =>
    ptrK s.a fun x4 => (0 ≤ ((j : Nat) : Int) ∧ ((j : Nat) : Int) < ((s.n : Nat) : Int)) ∧ L.may (x4.add (Int.toNat ((j : Nat) : Int) * 2)) 0 2 ∧ inL (L.sets (x4.add (Int.toNat ((j : Nat) : Int) * 2)) 0 [.int .i64 w0, .int .i64 w1]) k := by
  refine h.pa.get cSQ_len (arr_get hj) fun _ ha => ⟨_, _, ha, h.pa.get cSQ_len (arr_get hi) fun _ hb => ⟨_, _, hb, ?_⟩⟩
  refine h.pa.set cSQ_len (i := i) (by simpa using hi) (y := d[j]!) rfl fun L1 h1 o1 => ?_
  refine h1.set cSQ_len (i := j) (by simpa using hj) (y := d[i]!) rfl fun L2 h2 o2 => ?_
  refine hk L2 ⟨?_, o2.trans (o1.trans h.off)⟩
  rw [swp_list]; exact h2

theorem SQ.call {P : Program} {f : FuncId} {args : List Value} {v : Value} (h : SQ vl L0 H M s L d) (hr : RO P f args H v) : RO P f args L v := RO.beside (h.pa.live (by decide)) h.off hr

theorem SQ.cell (h : SQ vl L0 H M s L d) {b : Nat} (hu : L.unused b) (cs : List Value) (t : Nat) : SQ vl L0 (H.alloc b cs t) M s (L.alloc b cs t) d ∧ ¬ M b := by
  have hb : ¬ M b := (h.pa.live (by decide)).not hu
  exact ⟨⟨h.pa.same (SameOn.alloc hb), by rw [off_alloc hb, h.off]⟩, hb⟩

theorem SQc.live (h : SQc vl L0 H M s C b L d) : Live (fun x => M x ∨ x = b) L := fun x hx => by
  rcases hx with hx | hx
  · exact h.pa.live (by decide) x hx
  · exact ⟨⟨b, 0, none⟩, hx.symm, h.cl.wr⟩
theorem SQc.n (h : SQc vl L0 H M s C b L d) : s.n = d.size := by rw [h.pa.n]; simp
theorem SQc.rd (h : SQc vl L0 H M s C b L d) {i : Nat} (hi : i < d.size) {k : Int → Int → Prop} (hk : k (vl d[i]!).1 (vl d[i]!).2) :
    ptrK s.a fun a => (0 ≤ ((i : Nat) : Int) ∧ ((i : Nat) : Int) < ((s.n : Nat) : Int)) ∧ ∃ v0 : Int, ∃ v1 : Int,  L.reads (a.add (Int.toNat ((i : Nat) : Int) * 2)) 0 [.int .i64 v0, .int .i64 v1] ∧ k v0 v1 :=
  h.pa.get cSQ_len (arr_get hi) fun _ ha => ⟨_, _, ha, hk⟩
theorem SQc.call {P : Program} {f : FuncId} {args : List Value} {v : Value} (h : SQc vl L0 H M s C b L d) (hr : RO P f args H v) : RO P f args L v := RO.beside h.live h.off hr

theorem SQ.open (h : SQ vl L0 H M s L d) {b : Nat} (hu : L.unused b) {v : Value} (hv : C v) : SQc vl L0 H M s C b (L.alloc b [v] 1) d := by
  have hb : ¬ M b := (h.pa.live (by decide)).not hu
  refine ⟨h.pa.same (SameOn.alloc hb), by rw [alloc_off hu, h.off], hb, ⟨v, by rw [alloc_mem]; rfl, hv⟩, ?_⟩
  unfold GHeap.alloc; simp only [if_true]; exact ⟨trivial, by omega⟩
theorem SQc.close (h : SQc vl L0 H M s C b L d) : SQ vl L0 H M s (L.off (· = b)) d := by
  refine ⟨h.pa.offd fun x hx hb => h.nb (by rw [← hb]; exact hx), ?_⟩
  rw [off_off]; exact h.off

theorem SQc.put (h : SQc vl L0 H M s C b L d) {v : Value} (hv : C v) : L.may ⟨b, 0, none⟩ 0 1 ∧ SQc vl L0 H M s C b (L.sets ⟨b, 0, none⟩ 0 [v]) d := by
  refine ⟨⟨by rw [add_zero]; exact h.cl.wr, trivial⟩, ?_⟩
  rw [sets_one]
  refine ⟨h.pa.same (M := M) ?_, ?_, h.nb, ⟨v, by unfold GHeap.set; simp, hv⟩, h.cl.wr⟩
  · rw [← sets_one]
    exact SameOn.sets h.nb
  · rw [off_set (M := fun x => M x ∨ x = b) (.inr rfl)]; exact h.off

theorem SQc.swap (h : SQc vl L0 H M s C b L d) {i j : Nat} (hi : i < d.size) (hj : j < d.size) {k : GHeap → Prop} (hk : ∀ L', SQc vl L0 H M s C b L' (swp d i j) → k L') :
    ptrK s.a fun x1 => (0 ≤ ((j : Nat) : Int) ∧ ((j : Nat) : Int) < ((s.n : Nat) : Int)) ∧ ∃ v0 : Int, ∃ v1 : Int,  L.reads (x1.add (Int.toNat ((j : Nat) : Int) * 2)) 0 [.int .i64 v0, .int .i64 v1] ∧
    ptrK s.a fun x2 => (0 ≤ ((i : Nat) : Int) ∧ ((i : Nat) : Int) < ((s.n : Nat) : Int)) ∧ ∃ w0 : Int, ∃ w1 : Int,  L.reads (x2.add (Int.toNat ((i : Nat) : Int) * 2)) 0 [.int .i64 w0, .int .i64 w1] ∧
    ptrK s.a fun x3 => (0 ≤ ((i : Nat) : Int) ∧ ((i : Nat) : Int) < ((s.n : Nat) : Int)) ∧ L.may (x3.add (Int.toNat ((i : Nat) : Int) * 2)) 0 2 ∧ inL (L.sets (x3.add (Int.toNat ((i : Nat) : Int) * 2)) 0 [.int .i64 v0, .int .i64 v1]) fun L =>
    ptrK s.a fun x4 => (0 ≤ ((j : Nat) : Int) ∧ ((j : Nat) : Int) < ((s.n : Nat) : Int)) ∧ L.may (x4.add (Int.toNat ((j : Nat) : Int) * 2)) 0 2 ∧ inL (L.sets (x4.add (Int.toNat ((j : Nat) : Int) * 2)) 0 [.int .i64 w0, .int .i64 w1]) k := by
  refine SQ.swap (H := L.off M) ⟨h.pa, rfl⟩ hi hj fun L' h' => hk L' ?_
  have e := h'.off
  have hb : (⟨b, 0, none⟩ : Addr).block = b := rfl
  refine ⟨h'.pa, ?_, h.nb, ?_, ?_⟩
  · have : (L'.off M).off (· = b) = (L.off M).off (· = b) := by rw [e]
    rw [off_off, off_off] at this
    have e2 : (fun x => x = b ∨ M x) = fun x => M x ∨ x = b := by funext x; exact propext ⟨fun h => h.symm, fun h => h.symm⟩
    rw [e2] at this
    rw [this]; exact h.off
  · obtain ⟨v, hv, hc⟩ := h.cl.mem
    refine ⟨v, ?_, hc⟩
    have := congrArg (fun H => H.mem ⟨b, 0, none⟩) e
    simp only [off_mem (a := (⟨b, 0, none⟩ : Addr)) h.nb] at this
    rw [this]; exact hv
  · have h1 : (L'.off M).wr ⟨b, 0, none⟩ := by rw [e]; exact ⟨h.nb, h.cl.wr⟩
    exact h1.2
end
end Go.Proofs.YtcnkbjipogngaaaDoor.GH

