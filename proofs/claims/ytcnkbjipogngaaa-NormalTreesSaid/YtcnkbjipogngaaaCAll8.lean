/- Contracts of the program's functions. -/
import Derived.Test.YtcnkbjipogngaaaVAll2
import Derived.Test.YtcnkbjipogngaaaLibD
set_option linter.all false
namespace Go.Proofs.Ytcnkbjipogngaaa
open Go Go.Proofs.Ytcnkbjipogngaaa.GH

def idxL (v : Int) : Nat → List Int → Int
  | _, [] => -1
  | i, x :: xs => if v = x then (i : Int) else idxL v (i + 1) xs
def idxI (xs : List Int) (v : Int) : Int := idxL v 0 xs

theorem Index_ro {L : GHeap} {s : Sl} {xs : List Int} {v : Int} (hs : IsSl rI L s xs) (hb : xs.length ≤ 1048576) : RO PP slices_Index_int_int.id [.slice s.a s.n s.c, .int .i64 v] L (.int .i64 (idxI xs v)) := by
  apply slices_Index_int_int.go
  unfold slices_Index_int_int.t
  have key : ∀ i, i ≤ xs.length → idxI xs v = idxL v i (xs.drop i) → slices_Index_int_int.c2 (fun u L' => u = Value.int .i64 (idxI xs v) ∧ L' = L) s v ((s.n : Nat) : Int) ((i : Nat) : Int) L := by
    refine down ?_ ?_
    · intro he
      apply slices_Index_int_int.go2
      refine bcD (fun h => absurd h (by rw [hs.n]; omega)) fun _ => ⟨?_, rfl⟩
      rw [he, List.drop_length]; rfl
    · intro i hi ih he
      rw [List.drop_eq_getElem_cons hi] at he
      simp only [idxL] at he
      apply slices_Index_int_int.go2
      refine bcD (fun _ => ?_) fun h => absurd (by rw [hs.n]; omega) h
      refine hs.get (List.getElem?_eq_getElem hi) fun a cs hK hc => ?_
      obtain rfl := hK
      refine ⟨_, reads_one hc, bcE (fun h => ⟨by rw [he, if_pos h], rfl⟩) fun h => ?_⟩
      rw [if_neg h] at he
      rw [add_one (by omega)]
      exact ih he
  exact key 0 (Nat.zero_le _) rfl

theorem CloneSym_spec {L : GHeap} {s : Sl} {xs : List Sym} (hs : IsSl rSym L s xs) (hb : xs.length ≤ 1048576) :
    ACalls PP slices_Clone_api_Sym_api_Sym.id [.slice s.a s.n s.c] L fun v L' => ∃ s' : Sl, v = .slice s'.a s'.n s'.c ∧ Le L L' ∧ Own L rSym L' s' xs := by
  apply slices_Clone_api_Sym_api_Sym.go
  refine bcI (fun h => ⟨⟨none, 0, 0⟩, rfl, .refl L, ?_⟩) fun h => ?_
  · have : xs = [] := by
      cases xs with
      | nil => rfl
      | cons x xs => obtain ⟨a, _, h1, _⟩ := hs.at_ 0 x rfl; rw [h1] at h; cases h
    rw [this]; exact .nil _ _ _
  · intro b hu
    simp only [inL]
    have hle : Le L (L.alloc b [] 0) := Le.alloc hu _ _
    obtain ⟨cs, hc, hr⟩ := (hs.mono hle.toLeM).cells
    refine ⟨cs, ⟨hr, hc.one⟩, ?_⟩
    refine Own.append (R := rSym) (bytes := 16) (m := s.n) (Own.nil' L rSym _ _) hle hc hs.n.symm (.inl (by rw [hs.n]; simp; omega)) fun s' L' h1 h2 h3 _ _ => ⟨s', rfl, h1, h3⟩

theorem idxI_nonneg {xs : List Int} {v : Int} (h : ¬ idxI xs v < 0) : v ∈ xs := by
  have key : ∀ (xs : List Int) (i : Nat), ¬ idxL v i xs < 0 → v ∈ xs := by
    intro xs
    induction xs with
    | nil => intro i h; exact absurd (by simp [idxL]) h
    | cons x xs ih =>
      intro i h
      by_cases e : v = x
      · rw [e]; exact List.mem_cons_self ..
      · simp only [idxL, if_neg e] at h
        exact List.mem_cons_of_mem _ (ih _ h)
  exact key xs 0 h
end Go.Proofs.Ytcnkbjipogngaaa

namespace Go.Proofs.Ytcnkbjipogngaaa
open Go Go.Proofs.Ytcnkbjipogngaaa.GH

theorem CloneT_spec {L : GHeap} {s : Sl} {xs : List Tree} (hs : IsSl rTree L s xs) (hb : xs.length ≤ 1048576) :
    ACalls PP slices_Clone_api_Tree_api_Tree.id [.slice s.a s.n s.c] L fun v L' => ∃ s' : Sl, v = .slice s'.a s'.n s'.c ∧ Le L L' ∧ Own L rTree L' s' xs := by
  apply slices_Clone_api_Tree_api_Tree.go
  refine bcI (fun h => ⟨⟨none, 0, 0⟩, rfl, .refl L, ?_⟩) fun h => ?_
  · have : xs = [] := by
      cases xs with
      | nil => rfl
      | cons x xs => obtain ⟨a, _, h1, _⟩ := hs.at_ 0 x rfl; rw [h1] at h; cases h
    rw [this]; exact .nil _ _ _
  · intro b hu
    simp only [inL]
    have hle : Le L (L.alloc b [] 0) := Le.alloc hu _ _
    obtain ⟨cs, hc, hr⟩ := (hs.mono hle.toLeM).cells
    refine ⟨cs, ⟨hr, hc.one⟩, ?_⟩
    refine Own.append (R := rTree) (bytes := 40) (m := s.n) (Own.nil' L rTree _ _) hle hc hs.n.symm (.inl (by rw [hs.n]; simp; omega)) fun s' L' h1 h2 h3 _ _ => ⟨s', rfl, h1, h3⟩

theorem GrowT_nil (n : Nat) (hn : n * 40 ≤ 281474976710656) (L : GHeap) :
    ACalls PP slices_Grow_api_Tree_api_Tree.id [.slice none 0 0, .int .i64 (n : Nat)] L fun v L' => ∃ s : Sl, v = .slice s.a s.n s.c ∧ Le L L' ∧ Own L rTree L' s [] ∧ n ≤ s.c := by
  refine ACalls.wk (K := fun v L1 => ∃ L'', Wk L'' L1 ∧ ∃ s : Sl, v = .slice s.a s.n s.c ∧ Le L L'' ∧ Own L rTree L'' s [] ∧ n ≤ s.c) ?_ fun _ _ h => h
  refine slices_Grow_api_Tree_api_Tree.go (s_0 := ⟨none, 0, 0⟩) ?_
  unfold slices_Grow_api_Tree_api_Tree.t
  have e1 : w64 (((0 : Nat) : Int) - ((0 : Nat) : Int)) = 0 := by rw [w64_in (by omega) (by omega)]; rfl
  have e2 : w64 ((n : Int) - 0) = n := by rw [w64_in (by omega) (by omega)]; omega
  simp only [e1, e2]
  refine bcD (fun h => by omega) fun _ => bcD (fun h => ?_) fun h => ?_
  · refine ⟨by omega, by omega, ⟨⟨by simp; omega, fun _ => ?_⟩, fun hf => by simp only at hf; omega, fun _ => ⟨[], ⟨rfl, rfl⟩, fun b c' hu hc' => ⟨by simp, ?_⟩⟩⟩⟩
    · simp only [Nat.zero_add, Int.toNat_natCast]
      unfold Builtin.nextslicecap; rw [if_pos (by omega)]; exact hn
    · refine slices_Grow_api_Tree_api_Tree.go6 ⟨L.alloc b [] (c' * 3), ?_, ⟨_, 0, c'⟩, rfl, Le.alloc hu _ _, ⟨IsSl.nil _ _ _ _, fun hc => ⟨_, rfl, rfl, hu, fun hun => ?_, fun i _ hi => ?_⟩⟩, by simpa using hc'⟩
      · refine ⟨fun a v ha => ?_, fun a ha => ha, fun _ _ h => h, rfl, rfl⟩
        unfold GHeap.alloc at ha ⊢
        simp only at ha ⊢
        split at ha
        · split at ha <;> simp at ha
        · rename_i hb; rw [if_neg hb]; exact ha
      · have := (hun.1 ⟨b, 0, none⟩ rfl).2
        apply this
        unfold GHeap.alloc
        simp only [if_true]
        exact ⟨trivial, by simp only at hc; omega⟩
      · rw [add_spot rfl, alloc_mem]
        refine ⟨?_, by simp⟩
        unfold GHeap.alloc; simp only [if_true]
        exact ⟨trivial, by rw [Nat.zero_add]; exact hi⟩
  · refine slices_Grow_api_Tree_api_Tree.go6 ⟨L, ⟨fun _ _ h => h, fun _ h => h, fun _ _ h => h, rfl, rfl⟩, ⟨none, 0, 0⟩, rfl, .refl L, .nil L rTree L, by omega⟩

def totT (l : List (List Tree)) : Nat := (l.map List.length).sum

theorem ConcatT_c11 {K : Value → GHeap → Prop} {s0 : Sl} {L0 : GHeap} {xss : List (List Tree)} (h0 : IsSl (rS rTree) L0 s0 xss) (hb : totT xss * 40 ≤ 281474976710656) (hlen : xss.length ≤ 140737488355328)
    (hk : ∀ (r : Sl) L, Le L0 L → Own L0 rTree L r xss.flatten → K (.slice r.a r.n r.c) L) : ∀ (d i : Nat) (r : Sl) (L : GHeap), xss.length - i = d → i ≤ xss.length → Le L0 L → Own L0 rTree L r (xss.take i).flatten → totT xss ≤ r.c →
    slices_Concat_api_Tree_api_Tree.c11 K r s0 ((s0.n : Nat) : Int) ((i : Nat) : Int) L := by
  intro d
  induction d with
  | zero =>
    intro i r L hd hi hle ho hc
    have hi : i = xss.length := by omega
    subst hi
    apply slices_Concat_api_Tree_api_Tree.go11
    refine bcD (fun h => absurd h (by rw [h0.n]; omega)) fun _ => hk r L hle (by rwa [List.take_length] at ho)
  | succ d ih =>
    intro i r L hd hi hle ho hc
    have hlt : i < xss.length := by omega
    apply slices_Concat_api_Tree_api_Tree.go11
    refine bcD (fun _ => ?_) fun h => absurd (by rw [h0.n]; omega) h
    refine (h0.mono hle.toLeM).get (List.getElem?_eq_getElem hlt) fun a cs hK hr => ?_
    obtain ⟨s, rfl, hs⟩ := hK
    obtain ⟨ds, hc1, hc2⟩ := hs.cells
    refine ⟨s, reads_one hr, ds, ⟨hc2, hc1.one⟩, ?_⟩
    have htot : (xss.take i).flatten.length + xss[i].length ≤ totT xss := by
      have e : (xss.take (i + 1)).flatten.length = (xss.take i).flatten.length + xss[i].length := by
        rw [List.take_succ_eq_append_getElem hlt, List.flatten_append, List.length_append, List.flatten_singleton]
      rw [← e]
      have : totT xss = xss.flatten.length := by simp [totT, List.length_flatten]
      rw [this]
      conv => rhs; rw [← List.take_append_drop (i + 1) xss, List.flatten_append, List.length_append]
      omega
    refine Own.append (R := rTree) ho hle hc1 hs.n.symm (.inr ⟨.inr (by rw [hs.n]; omega), by rw [hs.n]; omega⟩) fun r' L' hle' _ ho' hc' _ => ?_
    rw [w64_in (by omega) (by omega)]
    refine ih (i + 1) r' L' (by omega) (by omega) hle' ?_ (by omega)
    rw [List.take_succ_eq_append_getElem hlt, List.flatten_append]
    simpa using ho'

theorem ConcatT_c3 {K : Value → GHeap → Prop} {s0 : Sl} {L : GHeap} {xss : List (List Tree)} (h0 : IsSl (rS rTree) L s0 xss) (hb : totT xss * 40 ≤ 281474976710656) (hlen : xss.length ≤ 140737488355328)
    (hk : ∀ (r : Sl) L', Le L L' → IsSl rTree L' r xss.flatten → K (.slice r.a r.n r.c) L') : ∀ (d i n : Nat), xss.length - i = d → i ≤ xss.length → n + totT (xss.drop i) = totT xss →
    slices_Concat_api_Tree_api_Tree.c3 K s0 ((n : Nat) : Int) s0 ((s0.n : Nat) : Int) ((i : Nat) : Int) L := by
  intro d
  induction d with
  | zero =>
    intro i n hd hi hn
    have hi : i = xss.length := by omega
    subst hi
    rw [List.drop_length] at hn
    have hn : n = totT xss := by simpa [totT] using hn
    subst hn
    apply slices_Concat_api_Tree_api_Tree.go3
    refine bcD (fun h => absurd h (by rw [h0.n]; omega)) fun _ => ?_
    refine (GrowT_nil (totT xss) hb L).mono ?_
    rintro v L' ⟨s, rfl, hle, ho, hc⟩
    exact ⟨s, rfl, ConcatT_c11 h0 hb hlen (fun r L' hle ho => hk r L' hle ho.sl) xss.length 0 s L' rfl (Nat.zero_le _) hle (by simpa using ho) hc⟩
  | succ d ih =>
    intro i n hd hi hn
    have hlt : i < xss.length := by omega
    apply slices_Concat_api_Tree_api_Tree.go3
    refine bcD (fun _ => ?_) fun h => absurd (by rw [h0.n]; omega) h
    refine h0.get (List.getElem?_eq_getElem hlt) fun a cs hK hr => ?_
    obtain ⟨s, rfl, hs⟩ := hK
    have hd' : totT (xss.drop i) = xss[i].length + totT (xss.drop (i + 1)) := by rw [List.drop_eq_getElem_cons hlt]; rfl
    have hw : w64 (((n : Nat) : Int) + ((s.n : Nat) : Int)) = ((n + s.n : Nat) : Int) := by rw [hs.n, w64_in (by omega) (by omega)]; omega
    refine ⟨s, reads_one hr, ?_⟩
    rw [hw]
    refine bcD (fun h => by omega) fun _ => ?_
    rw [w64_in (x := ((i : Nat) : Int) + 1) (by omega) (by omega)]
    exact ih (i + 1) (n + s.n) (by omega) (by omega) (by rw [hs.n]; omega)

theorem ConcatT_spec {s0 : Sl} {L : GHeap} {xss : List (List Tree)} (h0 : IsSl (rS rTree) L s0 xss) (hb : totT xss * 40 ≤ 281474976710656) (hlen : xss.length ≤ 140737488355328) :
    ACalls PP slices_Concat_api_Tree_api_Tree.id [.slice s0.a s0.n s0.c] L fun v L' => ∃ r : Sl, v = .slice r.a r.n r.c ∧ Le L L' ∧ IsSl rTree L' r xss.flatten :=
  slices_Concat_api_Tree_api_Tree.go (ConcatT_c3 h0 hb hlen (fun r L' hle hs => ⟨r, rfl, hle, hs⟩) xss.length 0 0 rfl (Nat.zero_le _) (by simp))
end Go.Proofs.Ytcnkbjipogngaaa

