/- slices.IndexFunc and ContainsFunc of numbers. -/
import Derived.Test.YtcnkbjipogngaaaDoorVAll1
import Derived.Test.YtcnkbjipogngaaaDoorLibD
set_option linter.all false
namespace Go.Proofs.YtcnkbjipogngaaaDoor
open Go Go.Proofs.YtcnkbjipogngaaaDoor.GH

theorem IndexFuncI_ro {L : GHeap} {s : Sl} {xs : List Int} {f : FuncId} {cap : List Value} {p : Int → Bool} (hs : IsSl rI L s xs) (hb : xs.length ≤ 1048576) (hf : ∀ x ∈ xs, RO PP f ([.int .i64 x] ++ cap) L (.bool (p x))) :
    ∃ k : Int, (0 ≤ k ↔ ∃ x ∈ xs, p x = true) ∧ RO PP sl_IndexFunc_int_int.id [.slice s.a s.n s.c, .func (.func f) #[] (List.toArray cap)] L (.int .i64 k) := by
  have key : ∀ (d i : Nat), xs.length - i = d → i ≤ xs.length → ∃ k : Int, (0 ≤ k ↔ ∃ x ∈ xs.drop i, p x = true) ∧ sl_IndexFunc_int_int.c2 (fun u L' => u = Value.int .i64 k ∧ L' = L) s f cap ((s.n : Nat) : Int) ((i : Nat) : Int) L := by
    intro d
    induction d with
    | zero =>
      intro i hd hi
      refine ⟨-1, ⟨fun h => by omega, ?_⟩, ?_⟩
      · rw [List.drop_eq_nil_of_le (by omega)]
        rintro ⟨x, hx, _⟩; cases hx
      · apply sl_IndexFunc_int_int.go2
        exact bcD (fun h => absurd h (by rw [hs.n]; omega)) fun _ => ⟨rfl, rfl⟩
    | succ d ih =>
      intro i hd hi
      have hlt : i < xs.length := by omega
      rw [List.drop_eq_getElem_cons hlt]
      obtain ⟨k, h1, h2⟩ := ih (i + 1) (by omega) (by omega)
      have step : ∀ u : Int, (p xs[i] = true → u = (i : Nat)) → (p xs[i] = false → u = k) → sl_IndexFunc_int_int.c2 (fun u' L' => u' = Value.int .i64 u ∧ L' = L) s f cap ((s.n : Nat) : Int) ((i : Nat) : Int) L := by
        intro u g1 g2
        apply sl_IndexFunc_int_int.go2
        refine bcD (fun _ => ?_) fun h => absurd (by rw [hs.n]; omega) h
        refine hs.get (List.getElem?_eq_getElem hlt) fun a cs hK hc => ?_
        obtain rfl := hK
        refine ⟨_, reads_one hc, (hf _ (List.getElem_mem hlt)).use ⟨_, rfl, bcI (fun hp => ⟨by rw [g1 hp], rfl⟩) fun hp => ?_⟩⟩
        rw [add_one (by omega), g2 hp]
        exact h2
      cases hp : p xs[i] with
      | true => exact ⟨i, ⟨fun _ => ⟨_, List.mem_cons_self .., hp⟩, fun _ => by omega⟩, step _ (fun _ => rfl) fun h => by rw [hp] at h; cases h⟩
      | false =>
        refine ⟨k, ?_, step _ (fun h => by rw [hp] at h; cases h) fun _ => rfl⟩
        rw [h1]
        constructor
        · rintro ⟨x, hx, hpx⟩; exact ⟨x, List.mem_cons_of_mem _ hx, hpx⟩
        · rintro ⟨x, hx, hpx⟩
          rcases List.mem_cons.1 hx with rfl | hx
          · rw [hp] at hpx; cases hpx
          · exact ⟨x, hx, hpx⟩
  obtain ⟨k, h1, h2⟩ := key xs.length 0 rfl (Nat.zero_le _)
  exact ⟨k, by simpa using h1, sl_IndexFunc_int_int.go h2⟩

theorem ContainsFuncI_ro {L : GHeap} {s : Sl} {xs : List Int} {f : FuncId} {cap : List Value} {p : Int → Bool} (hs : IsSl rI L s xs) (hb : xs.length ≤ 1048576) (hf : ∀ x ∈ xs, RO PP f ([.int .i64 x] ++ cap) L (.bool (p x))) :
    RO PP sl_ContainsFunc_int_int.id [.slice s.a s.n s.c, .func (.func f) #[] (List.toArray cap)] L (.bool (xs.any p)) := by
  obtain ⟨k, h1, h2⟩ := IndexFuncI_ro hs hb hf
  apply sl_ContainsFunc_int_int.go
  refine h2.use ⟨_, rfl, ?_, rfl⟩
  congr 1
  rw [Bool.eq_iff_iff, decide_eq_true_iff, List.any_eq_true]
  exact h1
end Go.Proofs.YtcnkbjipogngaaaDoor
