/- Contracts of the program's functions. -/
import Derived.Test.YtcnkbjipogngaaaDoorCAll19
import Derived.Test.YtcnkbjipogngaaaDoorVAll5
import Derived.Test.YtcnkbjipogngaaaDoorCAll2
set_option linter.all false
namespace Go.Proofs.YtcnkbjipogngaaaDoor
open Go Go.Proofs.YtcnkbjipogngaaaDoor.GH

theorem GrowT_nil (n : Nat) (hn : n * 40 ≤ 281474976710656) (L : GHeap) :
    ACalls PP sl_Grow_api_Tree_api_Tree.id [.slice none 0 0, .int .i64 (n : Nat)] L fun v L' => ∃ s : Sl, v = .slice s.a s.n s.c ∧ Le L L' ∧ Own L rTree L' s [] ∧ n ≤ s.c := by
  refine ACalls.wk (K := fun v L1 => ∃ L'', Wk L'' L1 ∧ ∃ s : Sl, v = .slice s.a s.n s.c ∧ Le L L'' ∧ Own L rTree L'' s [] ∧ n ≤ s.c) ?_ fun _ _ h => h
  refine sl_Grow_api_Tree_api_Tree.go (s_0 := ⟨none, 0, 0⟩) ?_
  unfold sl_Grow_api_Tree_api_Tree.t
  have e1 : w64 (((0 : Nat) : Int) - ((0 : Nat) : Int)) = 0 := by rw [w64_in (by omega) (by omega)]; rfl
  have e2 : w64 ((n : Int) - 0) = n := by rw [w64_in (by omega) (by omega)]; omega
  simp only [e1, e2]
  refine bcD (fun h => by omega) fun _ => bcD (fun h => ?_) fun h => ?_
  · refine ⟨by omega, by omega, ⟨⟨by simp; omega, fun _ => ?_⟩, fun hf => by simp only at hf; omega, fun _ => ⟨[], ⟨rfl, rfl⟩, fun b c' hu hc' => ⟨by simp, ?_⟩⟩⟩⟩
    · simp only [Nat.zero_add, Int.toNat_natCast]
      unfold Builtin.nextslicecap; rw [if_pos (by omega)]; exact hn
    · refine sl_Grow_api_Tree_api_Tree.go6 ⟨L.alloc b [] (c' * 3), ?_, ⟨_, 0, c'⟩, rfl, Le.alloc hu _ _, ⟨IsSl.nil _ _ _ _, fun hc => ⟨_, rfl, rfl, hu, fun hun => ?_, fun i _ hi => ?_⟩⟩, by simpa using hc'⟩
      · refine ⟨fun a v ha => ?_, fun a ha => ha, fun _ _ h => h, rfl, rfl⟩
        unfold GHeap.alloc at ha ⊢
        simp only at ha ⊢
        split at ha
        · split at ha <;> simp at ha
        · rename_i hb; rw [if_neg hb]; exact ha
      · have := (hun.1 ⟨b, 0, none⟩ rfl).2
        apply this
        unfold GHeap.alloc
        simp only [if_true]
        exact ⟨trivial, by simp only at hc; omega⟩
      · rw [add_spot rfl, alloc_mem]
        refine ⟨?_, by simp⟩
        unfold GHeap.alloc; simp only [if_true]
        exact ⟨trivial, by rw [Nat.zero_add]; exact hi⟩
  · refine sl_Grow_api_Tree_api_Tree.go6 ⟨L, ⟨fun _ _ h => h, fun _ h => h, fun _ _ h => h, rfl, rfl⟩, ⟨none, 0, 0⟩, rfl, .refl L, .nil L rTree L, by omega⟩

def totT (l : List (List Tree)) : Nat := (l.map List.length).sum

theorem ConcatT_c11 {K : Value → GHeap → Prop} {s0 : Sl} {L0 : GHeap} {xss : List (List Tree)} (h0 : IsSl (rS rTree) L0 s0 xss) (hb : totT xss * 40 ≤ 281474976710656) (hlen : xss.length ≤ 140737488355328)
    (hk : ∀ (r : Sl) L, Le L0 L → Own L0 rTree L r xss.flatten → K (.slice r.a r.n r.c) L) : ∀ (d i : Nat) (r : Sl) (L : GHeap), xss.length - i = d → i ≤ xss.length → Le L0 L → Own L0 rTree L r (xss.take i).flatten → totT xss ≤ r.c →
    sl_Concat_api_Tree_api_Tree.c11 K r s0 ((s0.n : Nat) : Int) ((i : Nat) : Int) L := by
  intro d
  induction d with
  | zero =>
    intro i r L hd hi hle ho hc
    have hi : i = xss.length := by omega
    subst hi
    apply sl_Concat_api_Tree_api_Tree.go11
    refine bcD (fun h => absurd h (by rw [h0.n]; omega)) fun _ => hk r L hle (by rwa [List.take_length] at ho)
  | succ d ih =>
    intro i r L hd hi hle ho hc
    have hlt : i < xss.length := by omega
    apply sl_Concat_api_Tree_api_Tree.go11
    refine bcD (fun _ => ?_) fun h => absurd (by rw [h0.n]; omega) h
    refine (h0.mono hle.toLeM).get (List.getElem?_eq_getElem hlt) fun a cs hK hr => ?_
    obtain ⟨s, rfl, hs⟩ := hK
    obtain ⟨ds, hc1, hc2⟩ := hs.cells
    refine ⟨s, reads_one hr, ds, ⟨hc2, hc1.one⟩, ?_⟩
    have htot : (xss.take i).flatten.length + xss[i].length ≤ totT xss := by
      have e : (xss.take (i + 1)).flatten.length = (xss.take i).flatten.length + xss[i].length := by
        rw [List.take_succ_eq_append_getElem hlt, List.flatten_append, List.length_append, List.flatten_singleton]
      rw [← e]
      have : totT xss = xss.flatten.length := by simp [totT, List.length_flatten]
      rw [this]
      conv => rhs; rw [← List.take_append_drop (i + 1) xss, List.flatten_append, List.length_append]
      omega
    refine Own.append (R := rTree) ho hle hc1 hs.n.symm (.inr ⟨.inr (by rw [hs.n]; omega), by rw [hs.n]; omega⟩) fun r' L' hle' _ ho' hc' _ => ?_
    rw [w64_in (by omega) (by omega)]
    refine ih (i + 1) r' L' (by omega) (by omega) hle' ?_ (by omega)
    rw [List.take_succ_eq_append_getElem hlt, List.flatten_append]
    simpa using ho'

theorem ConcatT_c3 {K : Value → GHeap → Prop} {s0 : Sl} {L : GHeap} {xss : List (List Tree)} (h0 : IsSl (rS rTree) L s0 xss) (hb : totT xss * 40 ≤ 281474976710656) (hlen : xss.length ≤ 140737488355328)
    (hk : ∀ (r : Sl) L', Le L L' → IsSl rTree L' r xss.flatten → K (.slice r.a r.n r.c) L') : ∀ (d i n : Nat), xss.length - i = d → i ≤ xss.length → n + totT (xss.drop i) = totT xss →
    sl_Concat_api_Tree_api_Tree.c3 K s0 ((n : Nat) : Int) s0 ((s0.n : Nat) : Int) ((i : Nat) : Int) L := by
  intro d
  induction d with
  | zero =>
    intro i n hd hi hn
    have hi : i = xss.length := by omega
    subst hi
    rw [List.drop_length] at hn
    have hn : n = totT xss := by simpa [totT] using hn
    subst hn
    apply sl_Concat_api_Tree_api_Tree.go3
    refine bcD (fun h => absurd h (by rw [h0.n]; omega)) fun _ => ?_
    refine (GrowT_nil (totT xss) hb L).mono ?_
    rintro v L' ⟨s, rfl, hle, ho, hc⟩
    exact ⟨s, rfl, ConcatT_c11 h0 hb hlen (fun r L' hle ho => hk r L' hle ho.sl) xss.length 0 s L' rfl (Nat.zero_le _) hle (by simpa using ho) hc⟩
  | succ d ih =>
    intro i n hd hi hn
    have hlt : i < xss.length := by omega
    apply sl_Concat_api_Tree_api_Tree.go3
    refine bcD (fun _ => ?_) fun h => absurd (by rw [h0.n]; omega) h
    refine h0.get (List.getElem?_eq_getElem hlt) fun a cs hK hr => ?_
    obtain ⟨s, rfl, hs⟩ := hK
    have hd' : totT (xss.drop i) = xss[i].length + totT (xss.drop (i + 1)) := by rw [List.drop_eq_getElem_cons hlt]; rfl
    have hw : w64 (((n : Nat) : Int) + ((s.n : Nat) : Int)) = ((n + s.n : Nat) : Int) := by rw [hs.n, w64_in (by omega) (by omega)]; omega
    refine ⟨s, reads_one hr, ?_⟩
    rw [hw]
    refine bcD (fun h => by omega) fun _ => ?_
    rw [w64_in (x := ((i : Nat) : Int) + 1) (by omega) (by omega)]
    exact ih (i + 1) (n + s.n) (by omega) (by omega) (by rw [hs.n]; omega)

theorem ConcatT_spec {s0 : Sl} {L : GHeap} {xss : List (List Tree)} (h0 : IsSl (rS rTree) L s0 xss) (hb : totT xss * 40 ≤ 281474976710656) (hlen : xss.length ≤ 140737488355328) :
    ACalls PP sl_Concat_api_Tree_api_Tree.id [.slice s0.a s0.n s0.c] L fun v L' => ∃ r : Sl, v = .slice r.a r.n r.c ∧ Le L L' ∧ IsSl rTree L' r xss.flatten :=
  sl_Concat_api_Tree_api_Tree.go (ConcatT_c3 h0 hb hlen (fun r L' hle hs => ⟨r, rfl, hle, hs⟩) xss.length 0 0 rfl (Nat.zero_le _) (by simp))
end Go.Proofs.YtcnkbjipogngaaaDoor

namespace Go.Proofs.YtcnkbjipogngaaaDoor
open Go Go.Proofs.YtcnkbjipogngaaaDoor.GH

theorem totT_two (xs ys : List Tree) : totT [xs, ys] = xs.length + ys.length := by simp [totT]

theorem Leaves_loop {L0 : GHeap} {w : List Int} (hw : w.length ≤ 1048576) : ∀ (m : Nat) (ts : List Tree) (os : List Int) (L : GHeap) (so st : Sl), nodesL ts ≤ m → nodesL ts ≤ 1048576 → os ++ GH.yields ts = w → Le L0 L → IsSl rTree L st ts → Own L0 rI L so os →
    parlref2_Leaves.c3 (fun v L' => Le L0 L' ∧ ∃ s' : Sl, v = .slice s'.a s'.n s'.c ∧ Own L0 rI L' s' w) so st L := by
  intro m
  induction m with
  | zero =>
    intro ts os L so st hm _ he hle hst ho
    cases ts with
    | cons t ts => have := nodes_pos t; simp only [nodesL] at hm; omega
    | nil =>
      apply parlref2_Leaves.go3
      have := hst.n
      refine bcD (fun h => absurd h (by simp only [List.length_nil] at this; omega)) fun _ => ⟨hle, so, rfl, ?_⟩
      rw [← he]; simpa [GH.yields] using ho
  | succ m ih =>
    intro ts os L so st hm hb he hle hst ho
    have hn := hst.n
    cases ts with
    | nil =>
      apply parlref2_Leaves.go3
      refine bcD (fun h => absurd h (by simp only [List.length_nil] at hn; omega)) fun _ => ⟨hle, so, rfl, ?_⟩
      rw [← he]; simpa [GH.yields] using ho
    | cons t ts =>
      obtain ⟨r, tm, ks⟩ := t
      simp only [List.length_cons] at hn
      simp only [nodesL, Tree.nodes] at hm hb
      have hkl := kids_le ks
      have htl := kids_le ts
      apply parlref2_Leaves.go3
      refine bcD (fun _ => ?_) fun h => absurd (by omega) h
      refine hst.get (i := 0) rfl fun a cs hK hc => ?_
      obtain ⟨sk, rfl, hsk⟩ := TK.open hK
      have hsk : IsSl rTree L sk ks := hsk
      have hd := hst.drop (l := 1) (by simp)
      refine ⟨_, _, sk, by simpa using hc, bcD (fun hr => ?_) fun hr => ⟨⟨by omega, by omega⟩, ?_⟩⟩
      · have hr : r < 0 := hr
        have hol : os.length ≤ w.length := by rw [← he]; simp
        refine Own.append (R := rI) (bytes := 8) (m := 1) (ys := [tm]) ho hle (Cells.cons (c := [.int .i64 tm]) rfl .nil) rfl (.inl (by omega)) fun s' L' g1 g2 g3 _ _ => ?_
        refine ⟨⟨by omega, by omega⟩, ih ts (os ++ [tm]) L' s' _ (by omega) (by omega) ?_ g1 (hd.mono g2) g3⟩
        rw [← he]
        simp only [GH.yields, Tree.yield]
        rw [if_pos hr]; simp
      · have hr : ¬ r < 0 := hr
        intro b hu
        simp only [inL]
        have leb := Le.alloc hu [.slice sk.a sk.n sk.c, .slice (subA st.a st.c 1 3) (st.n - 1) (st.c - 1)] 2
        have h2 : IsSl (rS rTree) (L.alloc b [.slice sk.a sk.n sk.c, .slice (subA st.a st.c 1 3) (st.n - 1) (st.c - 1)] 2) ⟨some ⟨b, 0, none⟩, 2, 2⟩ [ks, ts] :=
          IsSl.of_cells (cs := [.slice sk.a sk.n sk.c, .slice (subA st.a st.c 1 3) (st.n - 1) (st.c - 1)]) (Cells.cons (R := rS rTree) (c := [.slice sk.a sk.n sk.c]) ⟨sk, rfl, hsk.mono leb.toLeM⟩ (Cells.cons (R := rS rTree) (c := [.slice (subA st.a st.c 1 3) (st.n - 1) (st.c - 1)]) ⟨⟨subA st.a st.c 1 3, st.n - 1, st.c - 1⟩, rfl, hd.mono leb.toLeM⟩ .nil)) rfl (Nat.le_refl _) alloc_reads
        refine (ConcatT_spec h2 (by rw [totT_two]; omega) (by simp)).mono ?_
        rintro v L2 ⟨s2, rfl, hle2, hs2⟩
        simp only [List.flatten_cons, List.flatten_nil, List.append_nil] at hs2
        refine ⟨s2, rfl, ih (ks ++ ts) os L2 so s2 (by rw [nodesL_append]; omega) (by rw [nodesL_append]; omega) ?_ ((hle.trans leb).trans hle2) hs2 (ho.mono (leb.trans hle2))⟩
        rw [← he]
        simp only [GH.yields, Tree.yield]
        rw [if_neg hr, yields_append]

theorem Leaves_spec {L : GHeap} {t : Tree} {s : Sl} (hs : IsSl rTree L s t.kids) (hn : t.nodes ≤ 1048576) :
    ACalls PP parlref2_Leaves.id [treeV t s] L fun v L' => Le L L' ∧ ∃ so : Sl, v = .slice so.a so.n so.c ∧ Own L rI L' so t.yield := by
  apply parlref2_Leaves.go
  intro b hu
  simp only [inL]
  have leb := Le.alloc hu [.int .i64 t.rule, .int .i64 t.term, .slice s.a s.n s.c] 3
  have hyl := yield_le t
  have h1 : IsSl rTree (L.alloc b [.int .i64 t.rule, .int .i64 t.term, .slice s.a s.n s.c] 3) ⟨some ⟨b, 0, none⟩, 1, 1⟩ [t] :=
    IsSl.of_cells (cs := [.int .i64 t.rule, .int .i64 t.term, .slice s.a s.n s.c]) (Cells.cons (R := rTree) (c := [.int .i64 t.rule, .int .i64 t.term, .slice s.a s.n s.c]) (by cases t; exact TK.mk (hs.mono leb.toLeM)) .nil) rfl (Nat.le_refl _) alloc_reads
  exact Leaves_loop (w := t.yield) (by omega) (nodesL [t]) [t] [] _ ⟨none, 0, 0⟩ _ (Nat.le_refl _) (by simp [nodesL]; omega) (by simp [GH.yields]) leb h1 (.nil _ _ _)
end Go.Proofs.YtcnkbjipogngaaaDoor

