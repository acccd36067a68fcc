/- Contracts of the program's functions. -/
import Derived.Test.YtekiknmhlfiemaaDoorCAll11
import Derived.Test.YtekiknmhlfiemaaDoorVAll3
import Derived.Test.YtekiknmhlfiemaaDoorLibD
set_option linter.all false
namespace Go.Proofs.YtekiknmhlfiemaaDoor
open Go Go.Proofs.YtekiknmhlfiemaaDoor.GH

/-- What a rule does to the next lengths. -/
def lnS (out nx : List Int) (r : Rule) : List Int := if 0 ≤ lenR out r.right 0 ∧ (atI nx r.left < 0 ∨ lenR out r.right 0 < atI nx r.left) then nx.set r.left.toNat (lenR out r.right 0) else nx
def rnd (g : Gram) (out : List Int) : List Int := g.rules.foldl (lnS out) out
def rnds (g : Gram) : Nat → List Int
  | 0 => List.replicate g.nons.toNat (-1)
  | k + 1 => rnd g (rnds g k)

/-- Never below the least, and -1 where there is none. -/
structure Abv (g : Gram) (lens nx : List Int) : Prop where
  len : nx.length = g.nons.toNat
  neg : ∀ v ∈ nx, -1 ≤ v
  abv : ∀ n : Nat, n < nx.length → 0 ≤ atI nx n → 0 ≤ atI lens n ∧ atI lens n ≤ atI nx n

theorem lenR_abv {g : Gram} {lens out : List Int} (h : Abv g lens out) : ∀ {ss : List Sym} {n m : Int}, (∀ s ∈ ss, s.term = false → 0 ≤ s.n ∧ s.n < g.nons) → 0 ≤ m → m ≤ n → 0 ≤ lenR out ss n → 0 ≤ lenR lens ss m ∧ lenR lens ss m ≤ lenR out ss n
  | [], n, m, _, h0, h1, _ => ⟨h0, h1⟩
  | s :: ss, n, m, hs, h0, h1, hk => by
    have hs' : ∀ s ∈ ss, s.term = false → 0 ≤ s.n ∧ s.n < g.nons := fun s hm => hs s (List.mem_cons_of_mem _ hm)
    simp only [lenR] at hk ⊢
    by_cases ht : s.term = true
    · rw [if_pos ht] at hk ⊢
      rw [if_pos ht]
      exact lenR_abv h hs' (by omega) (by omega) hk
    · rw [if_neg ht] at hk ⊢
      rw [if_neg ht]
      obtain ⟨a1, a2⟩ := hs s (List.mem_cons_self ..) (by simpa using ht)
      by_cases hn : atI out s.n < 0
      · rw [if_pos hn] at hk; omega
      · rw [if_neg hn] at hk ⊢
        have e : s.n = ((s.n.toNat : Nat) : Int) := by omega
        have hl := h.len
        obtain ⟨b1, b2⟩ := h.abv s.n.toNat (by omega) (by rw [← e]; omega)
        rw [← e] at b1 b2
        rw [if_neg (by omega)]
        exact lenR_abv h hs' (by omega) (by omega) hk

section
variable {g : Gram} {lens : List Int}

theorem nt_ok (hv : Valid g) {r : Rule} (hr : r ∈ g.rules) : ∀ s ∈ r.right, s.term = false → 0 ≤ s.n ∧ s.n < g.nons := fun s hs ht => by
  have h := (hv.ok r hr).1.right s hs
  exact ⟨h.1, h.2.2 ht⟩

theorem lnS_abv (hv : Valid g) (hl : LenSpec g lens) {out nx : List Int} (ho : Abv g lens out) (hn : Abv g lens nx) {r : Rule} (hr : r ∈ g.rules) : Abv g lens (lnS out nx r) := by
  unfold lnS
  split
  · rename_i hc
    obtain ⟨hl0, hl1⟩ := (hv.ok r hr).1.left
    have hlen := hn.len
    have hlt : r.left.toNat < nx.length := by omega
    obtain ⟨c1, c2⟩ := lenR_abv ho (nt_ok hv hr) (Int.le_refl 0) (Int.le_refl 0) hc.1
    obtain ⟨d1, d2⟩ := rule_le hv hl hr c1
    refine ⟨by rw [List.length_set]; exact hlen, fun v hm => ?_, fun n hn' h0 => ?_⟩
    · rcases List.mem_or_eq_of_mem_set hm with hm | rfl
      · exact hn.neg v hm
      · omega
    · rw [List.length_set] at hn'
      rw [atI_set hlt] at h0 ⊢
      split at h0
      · rename_i e
        rw [if_pos e]
        have e' : ((n : Nat) : Int) = r.left := by omega
        rw [e']; omega
      · rename_i e
        rw [if_neg e]
        exact hn.abv n hn' h0
  · exact hn

/-- Closer to the least. -/
structure Cls (lens a b : List Int) : Prop where
  len : b.length = a.length
  cls : ∀ n : Nat, n < a.length → atI a n = atI lens n → atI b n = atI lens n

theorem lnS_cls (hv : Valid g) (hl : LenSpec g lens) {out nx : List Int} (ho : Abv g lens out) (hn : Abv g lens nx) {r : Rule} (hr : r ∈ g.rules) : Cls lens nx (lnS out nx r) := by
  unfold lnS
  split
  · rename_i hc
    obtain ⟨hl0, hl1⟩ := (hv.ok r hr).1.left
    have hlen := hn.len
    have hlt : r.left.toNat < nx.length := by omega
    obtain ⟨c1, c2⟩ := lenR_abv ho (nt_ok hv hr) (Int.le_refl 0) (Int.le_refl 0) hc.1
    obtain ⟨d1, d2⟩ := rule_le hv hl hr c1
    refine ⟨by rw [List.length_set], fun n hn' he => ?_⟩
    rw [atI_set hlt]
    split
    · rename_i e
      have e' : ((n : Nat) : Int) = r.left := by omega
      rw [e'] at he ⊢
      omega
    · exact he
  · exact ⟨rfl, fun n _ h => h⟩

theorem Cls.trans {a b c : List Int} (h : Cls lens a b) (h' : Cls lens b c) : Cls lens a c :=
  ⟨h'.len.trans h.len, fun n hn e => h'.cls n (by rw [h.len]; exact hn) (h.cls n hn e)⟩

theorem fold_abv (hv : Valid g) (hl : LenSpec g lens) {out : List Int} (ho : Abv g lens out) : ∀ (rs : List Rule) (nx : List Int), (∀ r ∈ rs, r ∈ g.rules) → Abv g lens nx → Abv g lens (rs.foldl (lnS out) nx) ∧ Cls lens nx (rs.foldl (lnS out) nx)
  | [], nx, _, hn => ⟨hn, rfl, fun _ _ h => h⟩
  | r :: rs, nx, hr, hn => by
    have h1 := lnS_abv hv hl ho hn (hr r (List.mem_cons_self ..))
    have h2 := lnS_cls hv hl ho hn (hr r (List.mem_cons_self ..))
    obtain ⟨a, b⟩ := fold_abv hv hl ho rs _ (fun r' h => hr r' (List.mem_cons_of_mem _ h)) h1
    exact ⟨a, h2.trans b⟩

theorem rnd_abv (hv : Valid g) (hl : LenSpec g lens) {out : List Int} (ho : Abv g lens out) : Abv g lens (rnd g out) ∧ Cls lens out (rnd g out) := fold_abv hv hl ho g.rules out (fun _ h => h) ho

/-- A rule whose right side is at its least makes its left side so. -/
theorem rnd_hit (hv : Valid g) (hl : LenSpec g lens) {out : List Int} (ho : Abv g lens out) {r : Rule} (hr : r ∈ g.rules) (h0 : 0 ≤ atI lens r.left) (h1 : lenR out r.right 0 = atI lens r.left) : atI (rnd g out) r.left = atI lens r.left := by
  obtain ⟨ps, qs, e⟩ := List.append_of_mem hr
  have hb := (hv.ok r hr).1.left
  have eL : r.left = ((r.left.toNat : Nat) : Int) := by omega
  unfold rnd
  have hsub : ∀ q ∈ ps ++ r :: qs, q ∈ g.rules := fun q hq => by rw [e]; exact hq
  rw [e, List.foldl_append, List.foldl_cons]
  obtain ⟨ha, _⟩ := fold_abv hv hl ho ps out (fun q hq => hsub q (by simp [hq])) ho
  have h2 := lnS_abv hv hl ho ha hr
  obtain ⟨_, hc⟩ := fold_abv hv hl ho qs _ (fun q hq => hsub q (by simp [hq])) h2
  have hlt : r.left.toNat < (ps.foldl (lnS out) out).length := by rw [ha.len]; omega
  have hit : atI (lnS out (ps.foldl (lnS out) out) r) r.left = atI lens r.left := by
    generalize hnx : ps.foldl (lnS out) out = nx at *
    unfold lnS
    split
    · rename_i hk
      have := atI_set (v := lenR out r.right 0) hlt r.left.toNat
      rw [if_pos rfl, ← eL] at this
      rw [this, h1]
    · rename_i hk
      have hal := ha.abv r.left.toNat hlt
      rw [← eL] at hal
      by_cases hneg : atI nx r.left < 0
      · exact absurd ⟨by omega, .inl hneg⟩ hk
      · have := hal (by omega)
        have : ¬ lenR out r.right 0 < atI nx r.left := fun h => hk ⟨by omega, .inr h⟩
        omega
  have := hc.cls r.left.toNat (by rw [h2.len]; omega) (by rw [← eL]; exact hit)
  rwa [← eL] at this

/-- Where a round hits nothing new, all is hit. -/
theorem all_hit (hv : Valid g) (hl : LenSpec g lens) {out : List Int} (ho : Abv g lens out) (hst : ∀ n : Nat, n < g.nons.toNat → atI (rnd g out) n = atI lens n → atI out n = atI lens n) :
    ∀ {ss : List Sym} {w : List Int}, Ds g ss w → ∀ m : Int, 0 ≤ m → lenR lens ss m = m + w.length → lenR out ss m = m + w.length := by
  intro ss w hd
  induction hd with
  | nil => intro m hm h; exact h
  | term _ ih =>
    intro m hm h
    simp only [lenR, if_true, List.length_cons] at h ⊢
    have := ih (m + 1) (by omega) (by omega)
    omega
  | @non r ss u v hr hu hvv ih1 ih2 =>
    intro m hm h
    have hb := (hv.ok r hr).1.left
    have k1 := lenR_le hl hu 0 (Int.le_refl 0)
    have k2 := rule_le hv hl hr k1.1
    simp only [lenR] at h ⊢
    rw [if_neg (by simp), if_neg (by omega), List.length_append] at h
    rw [if_neg (by simp), List.length_append]
    have k3 := lenR_le hl hvv (m + atI lens r.left) (by omega)
    have e1 : atI lens r.left = u.length := by omega
    have e2 : lenR lens r.right 0 = 0 + u.length := by omega
    have e3 := ih1 0 (Int.le_refl 0) e2
    have hit := rnd_hit hv hl ho hr k2.1 (by omega)
    have eL : r.left = ((r.left.toNat : Nat) : Int) := by omega
    rw [eL] at hit
    have hh := hst r.left.toNat (by omega) hit
    rw [← eL] at hh
    rw [if_neg (by omega), hh]
    have := ih2 (m + atI lens r.left) (by omega) (by omega)
    omega

def hits (lens out : List Int) : Nat := ((List.range lens.length).filter fun n : Nat => decide (atI out n = atI lens n)).length

theorem hits_le (lens out : List Int) : hits lens out ≤ lens.length := by
  unfold hits
  exact Nat.le_trans (List.length_filter_le ..) (by simp)

theorem hits_lt {a b : List Int} {N : Nat} (hN : lens.length = N) (ha : a.length = N) (hc : Cls lens a b) {n : Nat} (hn : n < N) (h1 : atI a n ≠ atI lens n) (h2 : atI b n = atI lens n) : hits lens a < hits lens b := by
  unfold hits
  have key : ∀ l : List Nat, (∀ x ∈ l, x < N) → ((l.filter fun n : Nat => decide (atI a n = atI lens n)).length ≤ (l.filter fun n : Nat => decide (atI b n = atI lens n)).length) ∧ (n ∈ l → (l.filter fun n : Nat => decide (atI a n = atI lens n)).length < (l.filter fun n : Nat => decide (atI b n = atI lens n)).length) := by
    intro l
    induction l with
    | nil => intro _; simp
    | cons x l ih =>
      intro hx
      obtain ⟨i1, i2⟩ := ih fun y hy => hx y (List.mem_cons_of_mem _ hy)
      have hxN := hx x (List.mem_cons_self ..)
      simp only [List.filter_cons]
      by_cases hxa : atI a x = atI lens x
      · have hxb := hc.cls x (by omega) hxa
        rw [if_pos (decide_eq_true hxa), if_pos (decide_eq_true hxb)]
        simp only [List.length_cons]
        refine ⟨by omega, fun hm => ?_⟩
        rcases List.mem_cons.1 hm with rfl | hm
        · exact absurd hxa h1
        · have := i2 hm; omega
      · rw [if_neg (by simpa using hxa)]
        by_cases hxb : atI b x = atI lens x
        · rw [if_pos (decide_eq_true hxb)]
          simp only [List.length_cons]
          exact ⟨by omega, fun _ => by omega⟩
        · rw [if_neg (by simpa using hxb)]
          refine ⟨i1, fun hm => ?_⟩
          rcases List.mem_cons.1 hm with rfl | hm
          · exact absurd h2 hxb
          · exact i2 hm
  exact (key _ (fun x hx => by have := List.mem_range.1 hx; omega)).2 (List.mem_range.2 (by omega))

theorem hits_all {a : List Int} {N : Nat} (hN : lens.length = N) (h : hits lens a = N) : ∀ n, n < N → atI a n = atI lens n := by
  intro n hn
  unfold hits at h
  have hf : (List.range lens.length).filter (fun n : Nat => decide (atI a n = atI lens n)) = List.range lens.length := by
    refine List.filter_eq_self.2 fun x hx => ?_
    refine Classical.byContradiction fun hne => ?_
    have : ((List.range lens.length).filter fun n : Nat => decide (atI a n = atI lens n)).length < (List.range lens.length).length := List.length_filter_lt_length_iff_exists.2 ⟨x, hx, by simpa using hne⟩
    rw [List.length_range] at this
    omega
  have := List.filter_eq_self.1 hf n (List.mem_range.2 (by omega))
  simpa using this

theorem rnds_abv (hv : Valid g) (hl : LenSpec g lens) : ∀ k, Abv g lens (rnds g k)
  | 0 => ⟨by simp [rnds], fun v hm => by rw [List.eq_of_mem_replicate hm]; omega, fun n hn h => by
      rw [rnds, List.length_replicate] at hn
      have : atI (rnds g 0) n = -1 := atI_get (by rw [rnds, Int.toNat_natCast, List.getElem?_replicate, if_pos hn])
      omega⟩
  | k + 1 => (rnd_abv hv hl (rnds_abv hv hl k)).1

theorem rnds_hits (hv : Valid g) (hl : LenSpec g lens) : ∀ k, k ≤ g.nons.toNat → k ≤ hits lens (rnds g k)
  | 0, _ => Nat.zero_le _
  | k + 1, hk => by
    have ih := rnds_hits hv hl k (by omega)
    have ha := rnds_abv hv hl k
    have hN := hl.len
    obtain ⟨_, hc⟩ := rnd_abv hv hl ha
    by_cases hst : ∃ n : Nat, n < g.nons.toNat ∧ atI (rnd g (rnds g k)) n = atI lens n ∧ atI (rnds g k) n ≠ atI lens n
    · obtain ⟨n, h1, h2, h3⟩ := hst
      have := hits_lt hN ha.len hc h1 h3 h2
      show k + 1 ≤ hits lens (rnd g (rnds g k))
      omega
    · have hst' : ∀ n : Nat, n < g.nons.toNat → atI (rnd g (rnds g k)) n = atI lens n → atI (rnds g k) n = atI lens n := fun n h1 h2 => Classical.byContradiction fun h3 => hst ⟨n, h1, h2, h3⟩
      have all : ∀ n : Nat, n < g.nons.toNat → atI (rnds g k) n = atI lens n := by
        intro n hn
        by_cases h0 : 0 ≤ atI lens n
        · obtain ⟨w, hw, hwl⟩ := hl.sound n (by omega) h0
          have := all_hit hv hl ha hst' hw 0 (Int.le_refl 0) (by simp only [lenR]; rw [if_neg (by simp), if_neg (by omega)]; omega)
          simp only [lenR] at this
          rw [if_neg (by simp)] at this
          split at this
          · omega
          · omega
        · have hn1 : n < (rnds g k).length := by rw [ha.len]; exact hn
          have h1 : ¬ 0 ≤ atI (rnds g k) n := fun h => h0 (ha.abv n hn1 h).1
          have h2 : -1 ≤ atI (rnds g k) n := by
            have := atI_get (n := ((n : Nat) : Int)) (List.getElem?_eq_getElem (by rw [Int.toNat_natCast]; exact hn1))
            rw [this]; exact ha.neg _ (List.getElem_mem _)
          have hn2 : n < lens.length := by omega
          have h3 : -1 ≤ atI lens n := by
            have := atI_get (n := ((n : Nat) : Int)) (List.getElem?_eq_getElem (by rw [Int.toNat_natCast]; exact hn2))
            rw [this]; exact hl.neg _ (List.getElem_mem _)
          omega
      have hfull : hits lens (rnd g (rnds g k)) = lens.length := by
        unfold hits
        rw [List.filter_eq_self.2 fun x hx => ?_, List.length_range]
        have hx := List.mem_range.1 hx
        exact decide_eq_true (hc.cls x (by rw [ha.len]; omega) (all x (by omega)))
      show k + 1 ≤ hits lens (rnd g (rnds g k))
      omega

/-- After as many rounds as there are nonterminals, all lengths are the least. -/
theorem rnds_lens (hv : Valid g) (hl : LenSpec g lens) : rnds g g.nons.toNat = lens := by
  have hN := hl.len
  have ha := rnds_abv hv hl g.nons.toNat
  have h1 := rnds_hits hv hl _ (Nat.le_refl g.nons.toNat)
  have h2 := hits_le lens (rnds g g.nons.toNat)
  have hall := hits_all hN (show hits lens (rnds g g.nons.toNat) = g.nons.toNat by omega)
  refine List.ext_getElem (by rw [ha.len, hN]) fun i hi hi' => ?_
  have h3 := hall i (by omega)
  rwa [atI_get (n := ((i : Nat) : Int)) (by rw [Int.toNat_natCast]; exact List.getElem?_eq_getElem hi), atI_get (n := ((i : Nat) : Int)) (by rw [Int.toNat_natCast]; exact List.getElem?_eq_getElem hi')] at h3
end
theorem LenSpec.one {g : Gram} {a b : List Int} (hv : Valid g) (h : LenSpec g a) (h' : LenSpec g b) : a = b := by rw [← rnds_lens hv h, rnds_lens hv h']
end Go.Proofs.YtekiknmhlfiemaaDoor

namespace Go.Proofs.YtekiknmhlfiemaaDoor
open Go Go.Proofs.YtekiknmhlfiemaaDoor.GH

theorem CloneInt_spec {L : GHeap} {s : Sl} {xs : List Int} (hs : IsSl rI L s xs) (hb : xs.length ≤ 1048576) :
    ACalls PP slices_Clone_int_int.id [.slice s.a s.n s.c] L fun v L' => ∃ (s' : Sl) (M : Nat → Prop), v = .slice s'.a s'.n s'.c ∧ Le L (L'.off M) ∧ PA (Value.int .i64) L L' M s' xs := by
  apply slices_Clone_int_int.go
  refine bcI (fun h => ⟨⟨none, 0, 0⟩, fun _ => False, rfl, by rw [off_empty]; exact .refl L, ?_⟩) fun h => ?_
  · have : xs = [] := by
      cases xs with
      | nil => rfl
      | cons x xs => obtain ⟨a, _, h1, _⟩ := hs.at_ 0 x rfl; rw [h1] at h; cases h
    rw [this]; exact PA.empty _ _ _
  · intro b5 hu
    simp only [inL]
    have hle : Le L (L.alloc b5 [] 0) := Le.alloc hu _ _
    obtain ⟨cs, hc, hr⟩ := (hs.mono hle.toLeM).cells
    refine ⟨cs, ⟨hr, hc.one⟩, ?_⟩
    have hn := hs.n
    have hl := hc.length
    refine ⟨⟨by simp only; omega, fun h0 => ?_⟩, fun h0 => ?_, fun h0 => ?_⟩
    · simp only at h0 ⊢
      unfold Builtin.nextslicecap
      rw [if_pos (by omega)]; omega
    · simp only at h0
      have h0 : s.n = 0 := by omega
      have : xs = [] := List.eq_nil_of_length_eq_zero (by omega)
      refine .inl ⟨h0, ⟨some ⟨b5, 0, none⟩, 0, 0⟩, fun _ => False, rfl, by rw [off_empty]; exact hle, ?_⟩
      rw [this]; exact PA.empty _ _ _
    · simp only [Nat.zero_add] at h0 ⊢
      refine ⟨[], ⟨rfl, trivial⟩, fun b c' hub hc' => ?_⟩
      rw [List.nil_append, Nat.mul_one]
      have hub0 := hle.toLeM.unused hub
      refine ⟨⟨some ⟨b, 0, none⟩, s.n, c'⟩, (· = b), rfl, by rw [alloc_off1 hub]; exact hle, hn, hc', fun b' hb' => by rw [hb']; exact hub0, fun _ => ⟨b, rfl, rfl, fun i x hx => ?_, fun i hi => ?_⟩, fun h => by simp only at h; omega⟩
      · obtain ⟨c1, hc1, hc2⟩ := hc.get i x hx
        obtain rfl := hc1
        rw [alloc_mem]
        have := hc2 0 _ rfl
        rwa [show i * rI.sz + 0 = i from by show i * 1 + 0 = i; omega] at this
      · unfold GHeap.alloc; simp only [if_true]; exact ⟨trivial, hi⟩

end Go.Proofs.YtekiknmhlfiemaaDoor

