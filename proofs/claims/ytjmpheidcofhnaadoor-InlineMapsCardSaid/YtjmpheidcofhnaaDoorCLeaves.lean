/- parlref2.Leaves is the word of a tree. -/
import Derived.Test.YtjmpheidcofhnaaDoorVAll4
import Derived.Test.YtjmpheidcofhnaaDoorCTree
import Derived.Test.YtjmpheidcofhnaaDoorCCloneT
set_option linter.all false
namespace Go.Proofs.YtjmpheidcofhnaaDoor
open Go Go.Proofs.YtjmpheidcofhnaaDoor.GH

theorem totT_two (xs ys : List Tree) : totT [xs, ys] = xs.length + ys.length := by simp [totT]

theorem Leaves_loop {L0 : GHeap} {w : List Int} (hw : w.length ≤ 1048576) : ∀ (m : Nat) (ts : List Tree) (os : List Int) (L : GHeap) (so st : Sl), nodesL ts ≤ m → nodesL ts ≤ 1048576 → os ++ GH.yields ts = w → Le L0 L → IsSl rTree L st ts → Own L0 rI L so os →
    parlref2_Leaves.c3 (fun v L' => Le L0 L' ∧ ∃ s' : Sl, v = .slice s'.a s'.n s'.c ∧ Own L0 rI L' s' w) so st L := by
  intro m
  induction m with
  | zero =>
    intro ts os L so st hm _ he hle hst ho
    cases ts with
    | cons t ts => have := nodes_pos t; simp only [nodesL] at hm; omega
    | nil =>
      apply parlref2_Leaves.go3
      have := hst.n
      refine bcD (fun h => absurd h (by simp only [List.length_nil] at this; omega)) fun _ => ⟨hle, so, rfl, ?_⟩
      rw [← he]; simpa [GH.yields] using ho
  | succ m ih =>
    intro ts os L so st hm hb he hle hst ho
    have hn := hst.n
    cases ts with
    | nil =>
      apply parlref2_Leaves.go3
      refine bcD (fun h => absurd h (by simp only [List.length_nil] at hn; omega)) fun _ => ⟨hle, so, rfl, ?_⟩
      rw [← he]; simpa [GH.yields] using ho
    | cons t ts =>
      obtain ⟨r, tm, ks⟩ := t
      simp only [List.length_cons] at hn
      simp only [nodesL, Tree.nodes] at hm hb
      have hkl := kids_le ks
      have htl := kids_le ts
      apply parlref2_Leaves.go3
      refine bcD (fun _ => ?_) fun h => absurd (by omega) h
      refine hst.get (i := 0) rfl fun a cs hK hc => ?_
      obtain ⟨sk, rfl, hsk⟩ := TK.open hK
      have hsk : IsSl rTree L sk ks := hsk
      have hd := hst.drop (l := 1) (by simp)
      refine ⟨_, _, sk, by simpa using hc, bcD (fun hr => ?_) fun hr => ⟨⟨by omega, by omega⟩, ?_⟩⟩
      · have hr : r < 0 := hr
        have hol : os.length ≤ w.length := by rw [← he]; simp
        refine Own.append (R := rI) (bytes := 8) (m := 1) (ys := [tm]) ho hle (Cells.cons (c := [.int .i64 tm]) rfl .nil) rfl (.inl (by omega)) fun s' L' g1 g2 g3 _ _ => ?_
        refine ⟨⟨by omega, by omega⟩, ih ts (os ++ [tm]) L' s' _ (by omega) (by omega) ?_ g1 (hd.mono g2) g3⟩
        rw [← he]
        simp only [GH.yields, Tree.yield]
        rw [if_pos hr]; simp
      · have hr : ¬ r < 0 := hr
        intro b hu
        simp only [inL]
        have leb := Le.alloc hu [.slice sk.a sk.n sk.c, .slice (subA st.a st.c 1 3) (st.n - 1) (st.c - 1)] 2
        have h2 : IsSl (rS rTree) (L.alloc b [.slice sk.a sk.n sk.c, .slice (subA st.a st.c 1 3) (st.n - 1) (st.c - 1)] 2) ⟨some ⟨b, 0, none⟩, 2, 2⟩ [ks, ts] :=
          IsSl.of_cells (cs := [.slice sk.a sk.n sk.c, .slice (subA st.a st.c 1 3) (st.n - 1) (st.c - 1)]) (Cells.cons (R := rS rTree) (c := [.slice sk.a sk.n sk.c]) ⟨sk, rfl, hsk.mono leb.toLeM⟩ (Cells.cons (R := rS rTree) (c := [.slice (subA st.a st.c 1 3) (st.n - 1) (st.c - 1)]) ⟨⟨subA st.a st.c 1 3, st.n - 1, st.c - 1⟩, rfl, hd.mono leb.toLeM⟩ .nil)) rfl (Nat.le_refl _) alloc_reads
        refine (ConcatT_spec h2 (by rw [totT_two]; omega) (by simp)).mono ?_
        rintro v L2 ⟨s2, rfl, hle2, hs2⟩
        simp only [List.flatten_cons, List.flatten_nil, List.append_nil] at hs2
        refine ⟨s2, rfl, ih (ks ++ ts) os L2 so s2 (by rw [nodesL_append]; omega) (by rw [nodesL_append]; omega) ?_ ((hle.trans leb).trans hle2) hs2 (ho.mono (leb.trans hle2))⟩
        rw [← he]
        simp only [GH.yields, Tree.yield]
        rw [if_neg hr, yields_append]

theorem Leaves_spec {L : GHeap} {t : Tree} {s : Sl} (hs : IsSl rTree L s t.kids) (hn : t.nodes ≤ 1048576) :
    ACalls PP parlref2_Leaves.id [treeV t s] L fun v L' => Le L L' ∧ ∃ so : Sl, v = .slice so.a so.n so.c ∧ Own L rI L' so t.yield := by
  apply parlref2_Leaves.go
  intro b hu
  simp only [inL]
  have leb := Le.alloc hu [.int .i64 t.rule, .int .i64 t.term, .slice s.a s.n s.c] 3
  have hyl := yield_le t
  have h1 : IsSl rTree (L.alloc b [.int .i64 t.rule, .int .i64 t.term, .slice s.a s.n s.c] 3) ⟨some ⟨b, 0, none⟩, 1, 1⟩ [t] :=
    IsSl.of_cells (cs := [.int .i64 t.rule, .int .i64 t.term, .slice s.a s.n s.c]) (Cells.cons (R := rTree) (c := [.int .i64 t.rule, .int .i64 t.term, .slice s.a s.n s.c]) (by cases t; exact TK.mk (hs.mono leb.toLeM)) .nil) rfl (Nat.le_refl _) alloc_reads
  exact Leaves_loop (w := t.yield) (by omega) (nodesL [t]) [t] [] _ ⟨none, 0, 0⟩ _ (Nat.le_refl _) (by simp [nodesL]; omega) (by simp [GH.yields]) leb h1 (.nil _ _ _)
end Go.Proofs.YtjmpheidcofhnaaDoor
