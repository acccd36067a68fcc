/- parlref2: Leads. -/
import Derived.Test.YtcnkbjipogngaaaDoorCNSplL
set_option linter.all false
namespace Go.Proofs.YtcnkbjipogngaaaDoor.NormS
open Go Go.Proofs.YtcnkbjipogngaaaDoor.GH NormC

theorem vs_iff {bs : List Bs} {nl : List Bool} {N : Nat} (hok : ∀ x ∈ bs, BsOk N x) {n : Nat} (hn : n < N) {out : List Bool} (h : Vs (Ed bs nl) (n : Int) (List.replicate N false) out) (b : Nat) :
    out.getD b false = true ↔ Vi (Ste bs nl) N (n : Int) (b : Int) := by
  have hrep : ∀ m : Nat, (List.replicate N false).getD m false = false := fun m => by
    rw [List.getD_eq_getElem?_getD, List.getElem?_replicate]; split <;> rfl
  have ed0 : ∀ {a b : Int}, Ed bs nl a b → 0 ≤ a ∧ a < N := by
    rintro a b ⟨x, hx, rfl, _⟩
    exact (hok x hx).left
  constructor
  · refine fun hb => h.snd (fun b => Vi (Ste bs nl) N (n : Int) b) (fun m hm => by rw [hrep] at hm; cases hm) (.one (.inl rfl)) (fun a b ha hab => ?_) b hb
    exact ha.trans (ed0 hab).1 (ed0 hab).2 (.one (.inr hab))
  · intro hv
    have one : ∀ {a b : Int}, Ste bs nl a b → out.getD a.toNat false = true → out.getD b.toNat false = true := by
      intro a b hab ha
      rcases hab with rfl | hab
      · exact ha
      · have h0 := ed0 hab
        obtain ⟨k, rfl⟩ := Int.eq_ofNat_of_zero_le h0.1
        rw [Int.toNat_natCast] at ha
        exact h.clo k ha (hrep k) b hab
    have key : ∀ {a b : Int}, Vi (Ste bs nl) N a b → out.getD a.toNat false = true → out.getD b.toNat false = true := by
      intro a b hab
      induction hab with
      | one he => exact one he
      | cons he _ _ _ ih => exact fun ha => ih (one he ha)
    have := key hv h.has
    rwa [Int.toNat_natCast] at this

theorem Leads_spec {L : GHeap} {bs : List Bs} {nl : List Bool} {N n : Nat} {T : Int} {sT sN : Sl} (hok : ∀ x ∈ bs, BsOk N x) (hbl : bs.length ≤ 1048576) (hN : N ≤ 1048576)
    (hT : IsSl (rS (rS rI)) L sT ((List.range N).map fun m : Nat => tosG bs (m : Int))) (hsN : IsSl rB L sN nl) (hnl : nl.length = N) (hn : n < N) :
    ACalls PP parlref2_Split_Leads.id [.agg #[.int .i64 (N : Int), .int .i64 T, .slice sT.a sT.n sT.c, .slice sN.a sN.n sN.c], .int .i64 (n : Int)] L fun v L' => Le L L' ∧ ∃ (so : Sl) (out : List Bool), v = .slice so.a so.n so.c ∧ IsSl rB L' so out ∧ out.length = N ∧ ∀ b : Nat, out.getD b false = true ↔ Vi (Ste bs nl) N (n : Int) (b : Int) := by
  apply parlref2_Split_Leads.go
  intro b2 hu2
  simp only [inL]
  have le2 := Le.alloc hu2 [.int .i64 (N : Int), .int .i64 T, .slice sT.a sT.n sT.c, .slice sN.a sN.n sN.c] 4
  have k2 : ∀ i v, [Value.int .i64 (N : Int), .int .i64 T, .slice sT.a sT.n sT.c, .slice sN.a sN.n sN.c][i]? = some v → (L.alloc b2 [.int .i64 (N : Int), .int .i64 T, .slice sT.a sT.n sT.c, .slice sN.a sN.n sN.c] 4).mem ⟨b2, i, none⟩ = some v := fun i v h => by rw [alloc_mem]; exact h
  generalize L.alloc b2 [.int .i64 (N : Int), .int .i64 T, .slice sT.a sT.n sT.c, .slice sN.a sN.n sN.c] 4 = L2 at *
  refine ⟨_, k2 0 _ rfl, ⟨by omega, by omega, by omega⟩, fun b9 hu9 => ?_⟩
  rw [Int.toNat_natCast, Nat.mul_one]
  obtain ⟨hpa, hoff⟩ := PA.new (f := Value.bool) (L0 := L) (z := false) (v := .bool false) (n := N) rfl hu9 le2.toLeM (by omega)
  generalize L2.alloc b9 (zeros N [.bool false]) N = L3 at *
  have lb9 : ∀ b, L3.unused b → ¬ (fun x => x = b9) b := fun b hu hb => hpa.live.not hu hb
  have hle03 : Le L L3 := hpa.le (by rw [hoff]; exact le2)
  intro b5 hu5
  obtain ⟨c1, c2, c3, c4⟩ := cell_new hu5 (.slice none 0 0) (.slice (some ⟨b9, 0, none⟩) N N)
  refine ⟨c1, ?_⟩
  have hpa5 := hpa.same (c4 _ (lb9 _ hu5))
  have n5 := lb9 _ hu5
  generalize (L3.alloc b5 [.slice none 0 0] 1).sets ⟨b5, 0, none⟩ 0 [.slice (some ⟨b9, 0, none⟩) N N] = L5 at *
  intro b6 hu6
  obtain ⟨d1, d2, d3, d4⟩ := cell_new hu6 .nilFunc (.func (.func parlref2_Split_Leads_1.id) #[] #[.pointer (some ⟨b5, 0, none⟩), .pointer (some ⟨b2, 0, none⟩), .pointer (some ⟨b6, 0, none⟩)])
  refine ⟨d1, ?_⟩
  have n6 : ¬ (fun x => x = b9) b6 := hpa5.live.not hu6
  have hpa6 := hpa5.same (d4 _ n6)
  have hle06 : Le L _ := (hle03.trans c3).trans d3
  generalize (L5.alloc b6 [.nilFunc] 1).sets ⟨b6, 0, none⟩ 0 [.func (.func parlref2_Split_Leads_1.id) #[] #[.pointer (some ⟨b5, 0, none⟩), .pointer (some ⟨b2, 0, none⟩), .pointer (some ⟨b6, 0, none⟩)]] = L6 at *
  have n2 : ∀ (b : Nat) (v : Value), L2.mem ⟨b, 0, none⟩ = some v → b ≠ b9 := fun b v h => mem_block (a := ⟨b, 0, none⟩) hu9 h
  have h23 : LeM L2 L3 := by rw [← hoff]; exact off_le
  have l26 : LeM L2 L6 := h23.trans (c3.trans d3).toLeM
  have n2' := n2 _ _ (k2 0 _ rfl)
  refine ⟨parlref2_Split_Leads_1.id, [.pointer (some ⟨b5, 0, none⟩), .pointer (some ⟨b2, 0, none⟩), .pointer (some ⟨b6, 0, none⟩)], d2, ?_⟩
  have hu0 : L.unused b9 := le2.toLeM.unused hu9
  have hleb : Le L (L6.off (· = b9)) := le_off hle06 fun c hc => by subst hc; exact hu0
  refine (leads_visit (bs := bs) (nl := nl) (N := N) (Lb := L6.off (· = b9)) (so := ⟨some ⟨b9, 0, none⟩, N, N⟩) (sT := sT) (sN := sN) (t1 := ⟨b5, 0, none⟩) (t2 := ⟨b2, 0, none⟩) (t3 := ⟨b6, 0, none⟩) hok hbl hN
    (by rw [off_mem n5]; exact d3.mem _ _ c2) (by rw [spot_add, off_mem n2']; exact l26.mem _ _ (k2 2 _ rfl)) (by rw [spot_add, off_mem n2']; exact l26.mem _ _ (k2 3 _ rfl)) (by rw [off_mem n6]; exact d2)
    (hT.mono hleb.toLeM) (hsN.mono hleb.toLeM) hnl _ _ L6 (n : Int) rfl (List.length_replicate ..) rfl hpa6 (by omega) (by omega)).mono ?_
  rintro v L7 ⟨rfl, hoff7, out', hpa7, hvis⟩
  refine ⟨rfl, ⟨some ⟨b9, 0, none⟩, N, N⟩, ?_, hpa7.le (by rw [hoff7]; exact hleb), _, out', rfl, hpa7.isBool, by rw [hvis.len, List.length_replicate], vs_iff hok hn hvis⟩
  have h7 : (L7.off (· = b9)).mem ⟨b5, 0, none⟩ = some (.slice (some ⟨b9, 0, none⟩) N N) := by rw [hoff7, off_mem n5]; exact d3.mem _ _ c2
  rwa [off_mem n5] at h7
end Go.Proofs.YtcnkbjipogngaaaDoor.NormS
