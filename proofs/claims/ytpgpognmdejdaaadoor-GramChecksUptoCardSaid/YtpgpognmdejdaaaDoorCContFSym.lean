/- slices.IndexFunc and ContainsFunc of symbols. -/
import Derived.Test.YtpgpognmdejdaaaDoorVUseful
import Derived.Test.YtpgpognmdejdaaaDoorLibD
set_option linter.all false
namespace Go.Proofs.YtpgpognmdejdaaaDoor
open Go Go.Proofs.YtpgpognmdejdaaaDoor.GH

theorem IndexFuncSym_ro {L : GHeap} {s : Sl} {xs : List Sym} {f : FuncId} {cap : List Value} {p : Sym → Bool} (hs : IsSl rSym L s xs) (hb : xs.length ≤ 1048576) (hf : ∀ x ∈ xs, RO PP f ([.agg #[.bool x.term, .int .i64 x.n]] ++ cap) L (.bool (p x))) :
    ∃ k : Int, (0 ≤ k ↔ ∃ x ∈ xs, p x = true) ∧ RO PP slices_IndexFunc_api_Sym_api_Sym.id [.slice s.a s.n s.c, .func (.func f) #[] (List.toArray cap)] L (.int .i64 k) := by
  have hk : ∃ k : Int, (0 ≤ k ↔ ∃ x ∈ xs, p x = true) ∧ ∀ i, i ≤ xs.length → (¬ ∃ x ∈ xs.take i, p x = true) → slices_IndexFunc_api_Sym_api_Sym.c2 (fun u L' => u = Value.int .i64 k ∧ L' = L) s f cap ((s.n : Nat) : Int) ((i : Nat) : Int) L := by
    by_cases hex : ∃ i, ∃ h : i < xs.length, p xs[i] = true ∧ ∀ j, ∀ h' : j < i, p (xs[j]'(by omega)) = false
    · obtain ⟨i0, h0, hp, hmin⟩ := hex
      refine ⟨i0, ⟨fun _ => ⟨_, List.getElem_mem h0, hp⟩, fun _ => by omega⟩, ?_⟩
      refine down ?_ ?_
      · intro hn
        exact absurd ⟨_, by rw [List.take_length]; exact List.getElem_mem h0, hp⟩ hn
      · intro i hi ih hn
        apply slices_IndexFunc_api_Sym_api_Sym.go2
        refine bcD (fun _ => ?_) fun h => absurd (by rw [hs.n]; omega) h
        refine hs.get (List.getElem?_eq_getElem hi) fun a cs hK hc => ?_
        obtain rfl := hK
        refine ⟨_, _, hc, (hf _ (List.getElem_mem hi)).use ⟨_, rfl, bcI (fun hpi => ?_) fun hpi => ?_⟩⟩
        · have : i = i0 := by
            rcases Nat.lt_trichotomy i i0 with h | h | h
            · rw [hmin i h] at hpi; cases hpi
            · exact h
            · exact absurd ⟨_, List.getElem_mem (l := xs.take i) (n := i0) (by simp; omega), by rw [List.getElem_take]; exact hp⟩ hn
          subst this
          exact ⟨rfl, rfl⟩
        · rw [add_one (by omega)]
          refine ih ?_
          rintro ⟨x, hx, hpx⟩
          rw [List.take_succ_eq_append_getElem hi] at hx
          rcases List.mem_append.1 hx with hx | hx
          · exact hn ⟨x, hx, hpx⟩
          · rw [List.mem_singleton] at hx; subst hx; rw [hpi] at hpx; cases hpx
    · have hall : ∀ i, ∀ h : i < xs.length, p xs[i] = false := by
        intro i
        induction i using Nat.strongRecOn with
        | ind i ih =>
          intro h
          cases hp : p xs[i] with
          | false => rfl
          | true => exact absurd ⟨i, h, hp, fun j hj => ih j hj (by omega)⟩ hex
      have hnone : ¬ ∃ x ∈ xs, p x = true := by
        rintro ⟨x, hx, hpx⟩
        obtain ⟨i, hi, rfl⟩ := List.getElem_of_mem hx
        rw [hall i hi] at hpx; cases hpx
      refine ⟨-1, ⟨fun h => by omega, fun h => absurd h hnone⟩, ?_⟩
      refine down ?_ ?_
      · intro _
        apply slices_IndexFunc_api_Sym_api_Sym.go2
        exact bcD (fun h => absurd h (by rw [hs.n]; omega)) fun _ => ⟨rfl, rfl⟩
      · intro i hi ih hn
        apply slices_IndexFunc_api_Sym_api_Sym.go2
        refine bcD (fun _ => ?_) fun h => absurd (by rw [hs.n]; omega) h
        refine hs.get (List.getElem?_eq_getElem hi) fun a cs hK hc => ?_
        obtain rfl := hK
        refine ⟨_, _, hc, (hf _ (List.getElem_mem hi)).use ⟨_, rfl, bcF (hall i hi) ?_⟩⟩
        rw [add_one (by omega)]
        refine ih ?_
        rintro ⟨x, hx, hpx⟩
        exact hnone ⟨x, List.mem_of_mem_take hx, hpx⟩
  obtain ⟨k, h1, h2⟩ := hk
  exact ⟨k, h1, slices_IndexFunc_api_Sym_api_Sym.go (h2 0 (Nat.zero_le _) (by simp))⟩

theorem ContainsFuncSym_ro {L : GHeap} {s : Sl} {xs : List Sym} {f : FuncId} {cap : List Value} {p : Sym → Bool} (hs : IsSl rSym L s xs) (hb : xs.length ≤ 1048576) (hf : ∀ x ∈ xs, RO PP f ([.agg #[.bool x.term, .int .i64 x.n]] ++ cap) L (.bool (p x))) :
    RO PP slices_ContainsFunc_api_Sym_api_Sym.id [.slice s.a s.n s.c, .func (.func f) #[] (List.toArray cap)] L (.bool (xs.any p)) := by
  obtain ⟨k, h1, h2⟩ := IndexFuncSym_ro hs hb hf
  apply slices_ContainsFunc_api_Sym_api_Sym.go
  refine h2.use ⟨_, rfl, ?_, rfl⟩
  congr 1
  rw [Bool.eq_iff_iff, decide_eq_true_iff, List.any_eq_true]
  exact h1
end Go.Proofs.YtpgpognmdejdaaaDoor
