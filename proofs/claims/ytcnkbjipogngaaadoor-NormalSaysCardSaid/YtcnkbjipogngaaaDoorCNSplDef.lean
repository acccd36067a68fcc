/- parlref2.SplitOf: what it builds, and one addition to a nonterminal's lists. -/
import Derived.Test.YtcnkbjipogngaaaDoorVAll0
import Derived.Test.YtcnkbjipogngaaaDoorLibD
import Derived.Test.YtcnkbjipogngaaaDoorCNormELaw
set_option linter.all false
namespace Go.Proofs.YtcnkbjipogngaaaDoor.NormS
open Go Go.Proofs.YtcnkbjipogngaaaDoor.GH

/-- The right sides of a nonterminal, in order. -/
def tosG (bs : List Bs) (m : Int) : List (List Int) := (bs.filter fun x => x.1 == m).map (·.2)
theorem tosG_snoc {bs : List Bs} {x : Bs} {m : Int} : tosG (bs ++ [x]) m = if x.1 = m then tosG bs m ++ [x.2] else tosG bs m := by
  unfold tosG
  rw [List.filter_append, List.map_append]
  by_cases h : x.1 = m
  · rw [if_pos h]; simp [h]
  · rw [if_neg h]; simp [h]
theorem tosG_mem {bs : List Bs} {m : Int} {r : List Int} : r ∈ tosG bs m ↔ (m, r) ∈ bs := by
  unfold tosG
  rw [List.mem_map]
  constructor
  · rintro ⟨x, hx, rfl⟩
    obtain ⟨h1, h2⟩ := List.mem_filter.1 hx
    have : x.1 = m := by simpa using h2
    rw [← this]; exact h1
  · exact fun h => ⟨(m, r), List.mem_filter.2 ⟨h, by simp⟩, rfl⟩
theorem tosG_len {bs : List Bs} {m : Int} : (tosG bs m).length ≤ bs.length := by
  unfold tosG
  rw [List.length_map]
  exact List.length_filter_le _ _

/-- The lists lie in blocks of their own. -/
structure TR (L0 H : GHeap) (ss : List Sl) (bs : List Bs) : Prop where
  own : ∀ (m : Nat) (s : Sl), ss[m]? = some s → Own L0 (rS rI) H s (tosG bs m)
  sep : ∀ (m m' : Nat) (s s' : Sl), m ≠ m' → ss[m]? = some s → ss[m']? = some s' → Sep s s'

theorem TR.nil {L0 H : GHeap} (n : Nat) : TR L0 H (List.replicate n ⟨none, 0, 0⟩) [] := by
  have key : ∀ {m : Nat} {s : Sl}, (List.replicate n (⟨none, 0, 0⟩ : Sl))[m]? = some s → s = ⟨none, 0, 0⟩ := by
    intro m s h
    rw [List.getElem?_replicate] at h
    split at h
    · exact (Option.some.inj h).symm
    · cases h
  refine ⟨fun m s h => ?_, fun m m' s s' _ h _ => ?_⟩
  · rw [key h]
    exact .nil _ _ _
  · rw [key h]
    exact fun h => absurd h (Nat.lt_irrefl 0)

theorem TR.up {L0 H H' : GHeap} {ss : List Sl} {bs : List Bs} (h : TR L0 H ss bs) (hl : Le H H') : TR L0 H' ss bs := ⟨fun m s hs => (h.own m s hs).mono hl, h.sep⟩

/-- A list is added to those of a nonterminal. -/
theorem add_to {L0 L : GHeap} {V : PVs} {bT : Nat} {ss : List Sl} {bs : List Bs} (h : PM L0 L V) (hb : V bT = some (ss.map fSl)) (hT : TR L0 (L.off (inV V)) ss bs) (hbl : bs.length ≤ 1048576) {m : Nat} {s : Sl} (hm : ss[m]? = some s) {sp : Sl} {r : List Int} (hsp : IsSl rI (L.off (inV V)) sp r) {k : GHeap → Prop} {N : Nat} (hN : ss.length = N)
    (hk : ∀ (L' : GHeap) (s' : Sl), PM L0 L' (putV V bT ((ss.set m s').map fSl)) → LeM (L.off (inV V)) (L'.off (inV V)) → TR L0 (L'.off (inV V)) (ss.set m s') (bs ++ [((m : Int), r)]) → k L') :
    appendK 1 24 L s 1 [.slice sp.a sp.n sp.c] fun x LL => Keep L LL ∧ inL LL fun LL => ptrK (some (⟨bT, 0, none⟩ : Addr)) fun x151 => (0 ≤ (m : Int) ∧ (m : Int) < ((N : Nat) : Int)) ∧ LL.may (x151.add (Int.toNat (m : Int) * 1)) 0 1 ∧ inL (LL.sets (x151.add (Int.toNat (m : Int) * 1)) 0 [.slice x.a x.n x.c]) k := by
  have hml := (List.getElem?_eq_some_iff.1 hm).1
  have ho := hT.own m s hm
  have hcells : Cells (rS rI) (L.off (inV V)) [.slice sp.a sp.n sp.c] [r] := Cells.cons (R := rS rI) (c := [.slice sp.a sp.n sp.c]) ⟨sp, rfl, hsp⟩ .nil
  have hlen := tosG_len (bs := bs) (m := (m : Int))
  refine h.app (R := rS rI) (bytes := 24) (m := 1) ho hcells rfl (by omega) fun s' L' g1 g2 g3 g4 g5 => ⟨g3, ?_⟩
  refine ⟨⟨by omega, by omega⟩, ?_⟩
  rw [Int.toNat_natCast, Nat.mul_one]
  have hll : m < (ss.map fSl).length := by rw [List.length_map]; exact hml
  obtain ⟨k1, k2, k3⟩ := g1.set hb hll (.slice s'.a s'.n s'.c)
  refine ⟨k1, hk _ s' ?_ ?_ ?_⟩
  · have e : (ss.set m s').map fSl = (ss.map fSl).set m (.slice s'.a s'.n s'.c) := by rw [List.map_set]
    rw [e]; exact k2
  · rw [k3]; exact g2
  · rw [k3]
    refine ⟨fun j t ht => ?_, fun j j' t t' hne ht ht' => ?_⟩
    · rw [tosG_snoc]
      rw [List.getElem?_set] at ht
      by_cases e : m = j
      · subst e
        rw [if_pos rfl, if_pos hml] at ht
        injection ht with ht
        subst ht
        rw [if_pos rfl]; exact g4
      · rw [if_neg e] at ht
        rw [if_neg (by simp only; omega)]
        exact (g5 _ _ _ (hT.own j t ht) (hT.sep m j s t e hm ht)).1
    · rw [List.getElem?_set] at ht ht'
      by_cases e : m = j
      · subst e
        rw [if_pos rfl, if_pos hml] at ht
        injection ht with ht
        subst ht
        rw [if_neg hne] at ht'
        exact (g5 _ _ _ (hT.own j' t' ht') (hT.sep m j' s t' hne hm ht')).2
      · rw [if_neg e] at ht
        by_cases e' : m = j'
        · subst e'
          rw [if_pos rfl, if_pos hml] at ht'
          injection ht' with ht'
          subst ht'
          exact (g5 _ _ _ (hT.own j t ht) (hT.sep m j s t e hm ht)).2.symm
        · rw [if_neg e'] at ht'
          exact hT.sep j j' t t' hne ht ht'
end Go.Proofs.YtcnkbjipogngaaaDoor.NormS
