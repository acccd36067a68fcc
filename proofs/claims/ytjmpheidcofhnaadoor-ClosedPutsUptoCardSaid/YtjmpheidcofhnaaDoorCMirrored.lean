/- parllaw2.mirrored: a tree mirrored, in an array that is filled from its end. -/
import Derived.Test.YtjmpheidcofhnaaDoorVMirrored
import Derived.Test.YtjmpheidcofhnaaDoorCReverseW
import Derived.Test.YtjmpheidcofhnaaDoorLibD
set_option linter.all false
namespace Go.Proofs.YtjmpheidcofhnaaDoor
open Go Go.Proofs.YtjmpheidcofhnaaDoor.GH

theorem mirs_length' : ∀ l : List Tree, (mirs l).length = l.length
  | [] => by simp [mirs]
  | x :: xs => by simp only [mirs, List.length_append, mirs_length' xs, List.length_cons, List.length_nil]

theorem mirrored_spec : ∀ (t : Tree) {L : GHeap} {s : Sl}, IsSl rTree L s t.kids → t.nodes ≤ 1048576 → ACalls PP parllaw2_mirrored.id [treeV t s] L fun v L' => Le L L' ∧ ∃ so : Sl, v = treeV (mirT t) so ∧ IsSl rTree L' so (mirT t).kids := by
  refine Tree.ind fun r t ks ih => ?_
  intro L s hs hn
  have hs : IsSl rTree L s ks := hs
  simp only [Tree.nodes] at hn
  have hkn := kids_le ks
  have hsn := hs.n
  apply parllaw2_mirrored.go
  refine both ⟨⟨by omega, by omega, by omega⟩, fun b hu => ?_⟩
  simp only [inL, Int.toNat_natCast]
  apply parllaw2_mirrored.go2
  have e3 : (zeros s.n [Value.int .i64 0, .int .i64 0, .slice none 0 0]).length = s.n * 3 := zeros_length _ _
  obtain ⟨hpv, hoff⟩ := PV.new (L0 := L) (vs := zeros s.n [Value.int .i64 0, .int .i64 0, .slice none 0 0]) (tot := s.n * 3) hu (.refl L) (by rw [e3]; exact Nat.le_refl _)
  generalize L.alloc b (zeros s.n [Value.int .i64 0, .int .i64 0, .slice none 0 0]) (s.n * 3) = L1 at hpv hoff
  generalize zeros s.n [Value.int .i64 0, .int .i64 0, .slice none 0 0] = vs at hpv e3
  have key : ∀ i, i ≤ ks.length → ∀ (L2 : GHeap) (vs : List Value), vs.length = s.n * 3 → PV L L2 b vs → Le L (L2.off (· = b)) → Cells rTree (L2.off (· = b)) (vs.drop ((ks.length - i) * 3)) (mirs (ks.take i)) →
      parllaw2_mirrored.c3 (fun v L' => Le L L' ∧ ∃ so : Sl, v = treeV (mirT (.mk r t ks)) so ∧ IsSl rTree L' so (mirT (.mk r t ks)).kids) s ((s.n : Nat) : Int) ((i : Nat) : Int) r t s 0 0 ⟨none, 0, 0⟩ r t ⟨some ⟨b, 0, none⟩, s.n, s.n⟩ L2 := by
    refine down ?_ ?_
    · intro L2 vs hvl hpv hle hc
      rw [Nat.sub_self, Nat.zero_mul, List.drop_zero, List.take_length] at hc
      apply parllaw2_mirrored.go3
      refine bcD (fun h => absurd h (by omega)) fun _ => ⟨hpv.le hle, ⟨some ⟨b, 0, none⟩, s.n, s.n⟩, rfl, ?_⟩
      show IsSl rTree L2 _ (mirs ks)
      exact hpv.isSl (hc.mono off_le) (by rw [mirs_length']; exact hsn) (Nat.le_refl _)
    · intro i hi ihi L2 vs hvl hpv hle hc
      have hk := nodes_mem (List.getElem_mem hi)
      have hlive := hpv.live (by omega)
      apply parllaw2_mirrored.go3
      refine bcD (fun _ => ?_) fun h => absurd (by omega) h
      refine (hs.mono hle.toLeM).get (List.getElem?_eq_getElem hi) fun a cs hK hr => ?_
      obtain ⟨sk, rfl, hsk⟩ := TK.open hK
      refine ⟨_, _, sk, off_le.reads hr, ACalls.off hlive (ih _ (List.getElem_mem hi) hsk (by omega)) ?_⟩
      rintro v L3 hsame hlive3 ⟨hle3, so, rfl, hso⟩
      refine ⟨_, _, so, rfl, ?_⟩
      have hpv3 := hpv.same hsame rfl
      have ew : w64 (w64 (((s.n : Nat) : Int) - 1) - ((i : Nat) : Int)) = ((ks.length - 1 - i : Nat) : Int) := by
        rw [w64_in (x := ((s.n : Nat) : Int) - 1) (by omega) (by omega), w64_in (by omega) (by omega)]; omega
      rw [ew]
      refine ⟨⟨by omega, by simp only; omega⟩, ?_, ?_⟩
      · rw [spot_add, Nat.zero_add, Int.toNat_natCast]; exact hpv3.may (by omega)
      · simp only [inL]
        rw [spot_add, Nat.zero_add, Int.toNat_natCast]
        obtain ⟨h1, h2⟩ := hpv3.set (ws := [.int .i64 (mirT ks[i]).rule, .int .i64 (mirT ks[i]).term, .slice so.a so.n so.c]) (o := (ks.length - 1 - i) * 3) (by simp; omega)
        rw [add_one (by omega)]
        refine ihi _ _ (by rw [splice_length (by simp; omega)]; exact hvl) h1 (by rw [h2]; exact hle.trans hle3) ?_
        rw [h2, List.take_succ_eq_append_getElem hi, mirs_append]
        have ed : (splice vs ((ks.length - 1 - i) * 3) [.int .i64 (mirT ks[i]).rule, .int .i64 (mirT ks[i]).term, .slice so.a so.n so.c]).drop ((ks.length - (i + 1)) * 3) = [.int .i64 (mirT ks[i]).rule, .int .i64 (mirT ks[i]).term, .slice so.a so.n so.c] ++ vs.drop ((ks.length - i) * 3) := by
          unfold splice
          have hl : (vs.take ((ks.length - 1 - i) * 3)).length = (ks.length - (i + 1)) * 3 := by simp; omega
          have e5 : (ks.length - (i + 1)) * 3 = (vs.take ((ks.length - 1 - i) * 3)).length := hl.symm
          rw [e5, List.append_assoc, List.drop_left]
          congr 2
          simp; omega
        rw [ed]
        have hone : mirs [ks[i]] = [mirT ks[i]] := by simp [mirs]
        rw [hone]
        refine Cells.cons ?_ (hc.mono hle3.toLeM)
        generalize mirT ks[i] = u at *
        cases u; exact TK.mk hso
  exact key 0 (Nat.zero_le _) L1 vs e3 hpv (by rw [hoff]; exact .refl L) (by rw [Nat.sub_zero, ← hsn, ← e3, List.drop_length]; simpa [mirs] using Cells.nil)
end Go.Proofs.YtjmpheidcofhnaaDoor
