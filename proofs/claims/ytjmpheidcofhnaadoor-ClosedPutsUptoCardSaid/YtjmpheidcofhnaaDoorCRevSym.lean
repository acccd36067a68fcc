/- A private list of symbols, reversed in place. -/
import Derived.Test.YtjmpheidcofhnaaDoorCReverseW
import Derived.Test.YtjmpheidcofhnaaDoorLibD
set_option linter.all false
namespace Go.Proofs.YtjmpheidcofhnaaDoor
open Go Go.Proofs.YtjmpheidcofhnaaDoor.GH

def symC (s : Sym) : List Value := [.bool s.term, .int .i64 s.n]
theorem symC_len (s : Sym) : (symC s).length = 2 := rfl

theorem symCells {L : GHeap} : ∀ xs : List Sym, Cells rSym L (xs.flatMap symC) xs
  | [] => .nil
  | x :: xs => by rw [List.flatMap_cons]; exact .cons rfl (symCells xs)

theorem symCells_eq {L : GHeap} {cs : List Value} {xs : List Sym} (h : Cells rSym L cs xs) : cs = xs.flatMap symC := by
  induction h with
  | nil => rfl
  | @cons c cs x xs hk _ ih =>
    obtain rfl := hk
    rw [List.flatMap_cons, ih]; rfl

/-- The block of a slice that is one's own. -/
theorem OwnW.pf {L0 L : GHeap} {s : Sl} {ys : List Sym} (h : OwnW L0 L s ys) (hne : ys ≠ []) : ∃ b, s.a = some ⟨b, 0, none⟩ ∧ PF symC L0 L b ys := by
  obtain ⟨b, h1, h2, h3⟩ := h.wr hne
  refine ⟨b, h1, h2, fun i v hv => ?_, fun i hi => h3 i (by rwa [flat_length symC_len] at hi)⟩
  obtain ⟨cs, hc, hr⟩ := h.own.sl.cells
  rw [h1] at hr
  rw [← symCells_eq hc] at hv
  have hr : L.reads ⟨b, 0, none⟩ 0 cs := hr.2
  have := reads_iff.1 hr i v hv
  rwa [spot_add, Nat.zero_add, Nat.zero_add] at this

theorem ReversePF_spec {L0 L : GHeap} {b c : Nat} {xs : List Sym} (h : PF symC L0 L b xs) (hb : xs.length ≤ 1048576) :
    ACalls PP slices_Reverse_api_Sym_api_Sym.id [.slice (some ⟨b, 0, none⟩) xs.length c] L fun v L' => v = .tuple #[] ∧ PF symC L0 L' b xs.reverse ∧ L'.off (· = b) = L.off (· = b) := by
  refine slices_Reverse_api_Sym_api_Sym.go (s_0 := ⟨some ⟨b, 0, none⟩, xs.length, c⟩) ?_
  unfold slices_Reverse_api_Sym_api_Sym.t
  have loop : ∀ (d k : Nat), k + d = xs.length → ∀ (ys : List Sym) (L' : GHeap), Swp xs ys k → PF symC L0 L' b ys → L'.off (· = b) = L.off (· = b) →
      slices_Reverse_api_Sym_api_Sym.c1 (fun v L' => v = .tuple #[] ∧ PF symC L0 L' b xs.reverse ∧ L'.off (· = b) = L.off (· = b)) ⟨some ⟨b, 0, none⟩, xs.length, c⟩ ((k : Nat) : Int) ((xs.length : Int) - 1 - ((k : Nat) : Int)) L' := by
    intro d
    induction d with
    | zero =>
      intro k hk ys L' hs hN ho
      apply slices_Reverse_api_Sym_api_Sym.go1
      refine bcD (fun h => absurd h (by omega)) fun hlt => ⟨rfl, ?_, ho⟩
      rw [← swp_done hs hlt]; exact hN
    | succ d ih =>
      intro k hk ys L' hs hN ho
      apply slices_Reverse_api_Sym_api_Sym.go1
      refine bcD (fun hlt' => ?_) fun hlt' => ⟨rfl, by rw [← swp_done hs hlt']; exact hN, ho⟩
      have ej : (xs.length : Int) - 1 - ((k : Nat) : Int) = ((xs.length - 1 - k : Nat) : Int) := by omega
      rw [ej]
      have hl := hs.1
      have hk1 : k < ys.length := by omega
      have hk2 : xs.length - 1 - k < ys.length := by omega
      refine PF.get hN symC_len (List.getElem?_eq_getElem hk2) hl.symm fun a hc => ⟨_, _, hc, ?_⟩
      refine PF.get hN symC_len (List.getElem?_eq_getElem hk1) hl.symm fun a2 hc2 => ⟨_, _, hc2, ?_⟩
      refine PF.set hN symC_len (y := ys[xs.length - 1 - k]) hk1 hl.symm rfl fun L2 hN2 ho2 => ?_
      refine PF.set hN2 symC_len (y := ys[k]) (by simp; omega) (by simp; omega) rfl fun L3 hN3 ho3 => ?_
      rw [add_one (by omega), w64_in (by omega) (by omega), show ((xs.length - 1 - k : Nat) : Int) - 1 = (xs.length : Int) - 1 - ((k + 1 : Nat) : Int) by omega]
      exact ih (k + 1) (by omega) _ L3 (swp_step hs (by omega) (List.getElem?_eq_getElem hk1) (List.getElem?_eq_getElem hk2)) hN3 (ho3.trans (ho2.trans ho))
  have := loop xs.length 0 (by omega) xs L swp_zero h rfl
  rw [w64_in (by simp only; omega) (by simp only; omega)]
  simpa using this
theorem ReverseNil_ro {L : GHeap} {a : Option Addr} {c : Nat} : RO PP slices_Reverse_api_Sym_api_Sym.id [.slice a 0 c] L (.tuple #[]) := by
  refine slices_Reverse_api_Sym_api_Sym.go (s_0 := ⟨a, 0, c⟩) ?_
  unfold slices_Reverse_api_Sym_api_Sym.t
  rw [w64_in (by simp only; omega) (by simp only; omega)]
  apply slices_Reverse_api_Sym_api_Sym.go1
  exact bcD (fun h => absurd h (by simp)) fun _ => ⟨rfl, rfl⟩
end Go.Proofs.YtjmpheidcofhnaaDoor
