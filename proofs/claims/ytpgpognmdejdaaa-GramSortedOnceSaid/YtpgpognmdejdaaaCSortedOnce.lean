/- The law GramSortedOnce. -/
import Derived.Test.YtpgpognmdejdaaaVSortedOnce
import Derived.Test.YtpgpognmdejdaaaCSorted
import Derived.Test.YtpgpognmdejdaaaCMake
import Derived.Test.YtpgpognmdejdaaaCWorks
import Derived.Test.YtpgpognmdejdaaaCGSame
set_option linter.all false
namespace Go.Proofs.Ytpgpognmdejdaaa
open Go Go.Proofs.Ytpgpognmdejdaaa.GH Go.Sort

theorem Ordd.get {g : Gram} {o : List Nat} (h : Ordd g o) {i : Nat} (hi : i < o.length) : (o.map (rAt g))[i]? = some (rAt g o[i]) := by rw [List.getElem?_map, List.getElem?_eq_getElem hi]; rfl

theorem sortedG_valid {g : Gram} {o : List Nat} (hv : Valid g) (h : Ordd g o) : Valid (sortedG g o) := by
  have hp : (o.map (rAt g)).Perm g.rules := by
    have := h.perm.map (rAt g)
    refine this.trans (.of_eq ?_)
    refine List.ext_getElem (by simp) fun i h1 h2 => ?_
    rw [List.getElem_map, List.getElem_range]
    have := rAt_get h2
    rw [List.getElem?_eq_getElem h2] at this
    exact (Option.some.inj this).symm
  exact ⟨hv.terms, hv.nons, hv.start, by show (o.map (rAt g)).length ≤ 32; rw [hp.length_eq]; exact hv.many, fun r hr => hv.ok r (hp.mem_iff.1 hr), hp.nodup_iff.2 hv.nodup⟩

/-- Sorted rules stay as they are. -/
theorem sorted_again {g : Gram} {o o' : List Nat} (h : Ordd g o) (h' : Ordd (sortedG g o) o') : sortedG (sortedG g o) o' = sortedG g o := by
  have hlen : (sortedG g o).rules.length = o.length := by simp [sortedG]
  have hr : ∀ n, n < o.length → rAt (sortedG g o) n = rAt g (o.getD n 0) := by
    intro n hn
    have h1 := rAt_get (g := sortedG g o) (n := n) (by omega)
    have h2 : (sortedG g o).rules[n]? = some (rAt g o[n]) := h.get hn
    rw [h2] at h1
    rw [← Option.some.inj h1, List.getD_eq_getElem?_getD, List.getElem?_eq_getElem hn]; rfl
  have hid : o' = List.range o.length := by
    have hp := h'.perm
    rw [hlen] at hp
    have hmem : ∀ x ∈ o', x < o.length := fun x hx => List.mem_range.1 (hp.mem_iff.1 hx)
    have hinc : o'.Pairwise (· < ·) := by
      refine h'.inc.imp_of_mem fun {x y} hx hy hxy => ?_
      rw [hr x (hmem x hx), hr y (hmem y hy)] at hxy
      rcases Nat.lt_trichotomy x y with hlt | heq | hgt
      · exact hlt
      · subst heq
        have := (to_cmpR.eq (rAt g (o.getD x 0)) (rAt g (o.getD x 0))).2 rfl
        omega
      · have hpw := h.inc
        rw [List.pairwise_iff_getElem] at hpw
        have := hpw y x (hmem y hy) (hmem x hx) hgt
        have e1 : o.getD y 0 = o[y]'(hmem y hy) := by rw [List.getD_eq_getElem?_getD, List.getElem?_eq_getElem (hmem y hy)]; rfl
        have e2 : o.getD x 0 = o[x]'(hmem x hx) := by rw [List.getD_eq_getElem?_getD, List.getElem?_eq_getElem (hmem x hx)]; rfl
        rw [← e1, ← e2] at this
        have h3 := (to_cmpR.anti (rAt g (o.getD x 0)) (rAt g (o.getD y 0))).1 hxy
        omega
    exact hp.eq_of_pairwise (le := (· < ·)) (fun a b _ _ h1 h2 => by omega) hinc List.pairwise_lt_range
  show (⟨g.terms, g.nons, g.start, o'.map (rAt (sortedG g o))⟩ : Gram) = ⟨g.terms, g.nons, g.start, o.map (rAt g)⟩
  congr 1
  rw [hid]
  refine List.ext_getElem (by simp) fun i h1 h2 => ?_
  have hi : i < o.length := by simpa using h1
  rw [List.getElem_map, List.getElem_range, List.getElem_map, hr i hi, List.getD_eq_getElem?_getD, List.getElem?_eq_getElem hi]; rfl

/-- Which rules were seen. -/
def seenL (n : Nat) (o : List Nat) : List Bool := (List.range n).map fun k => decide (k ∈ o)
theorem seenL_get {n k : Nat} {o : List Nat} (h : k < n) : (seenL n o)[k]? = some (decide (k ∈ o)) := by simp [seenL, h]
theorem seenL_set {n k : Nat} {o : List Nat} : (seenL n o).set k true = seenL n (o ++ [k]) := by
  refine List.ext_getElem (by simp [seenL]) fun i h1 h2 => ?_
  rw [List.getElem_set]
  simp only [seenL, List.getElem_map, List.getElem_range, List.mem_append, List.mem_singleton]
  split
  · rename_i e; subst e; simp
  · rename_i e
    rw [decide_eq_decide]
    exact ⟨.inl, fun h => h.resolve_right fun e' => e e'.symm⟩

theorem SortedOnce_spec {L : GHeap} {s : Sl} {xs : List Int} (hs : IsSl rI L s xs) : ACalls PP parlkeep2_GramSortedOnce.id [.slice s.a s.n s.c] L fun v L' => v = .bool true ∧ Le L L' := by
  apply parlkeep2_GramSortedOnce.go
  refine (Grammar_spec hs).mono ?_
  rintro v L1 ⟨g, sg, rfl, hg, hle1, hsg⟩
  refine ⟨_, _, _, sg, rfl, ?_⟩
  have hv := hg.valid
  have hgn := hsg.n
  have hmany := hg.many
  have hsome := hg.some
  refine (Sorted_spec hsg).mono ?_
  rintro v L2 ⟨hle2, ⟨h, _⟩ | ⟨_, o, so, sr, ho, rfl, hsr, hso⟩⟩
  · exact absurd (chk_zero.2 hv) h
  refine ⟨_, _, _, sr, so, _, rfl, ?_⟩
  have hol := ho.len
  have hson := hso.n
  have hsrn := hsr.n
  rw [List.length_map] at hson hsrn
  refine works_spec.mono ?_
  rintro v L3 ⟨rfl, hle3⟩
  refine ⟨true, rfl, bcF (by rfl) (bcF (by rfl) (bcF (by simp; omega) (bcF (by simp; omega) ?_)))⟩
  refine ⟨⟨by omega, by omega, by omega⟩, ?_⟩
  intro b47 hu
  simp only [inL]
  rw [Int.toNat_natCast, Nat.mul_one, hgn]
  obtain ⟨hp0, ho0⟩ := PA.new (f := Value.bool) (z := false) (v := .bool false) (n := g.rules.length) rfl hu (LeM.refl L3) hsome
  generalize L3.alloc b47 (zeros g.rules.length [.bool false]) g.rules.length = L4 at *
  have hle13 : Le L1 L3 := hle2.trans hle3
  have hle03 : Le L L3 := hle1.trans hle13
  have key : ∀ i, i ≤ o.length → ∀ L5 : GHeap, PA Value.bool L3 L5 (· = b47) ⟨some ⟨b47, 0, none⟩, g.rules.length, g.rules.length⟩ (seenL g.rules.length (o.take i)) → L5.off (· = b47) = L3 →
      parlkeep2_GramSortedOnce.c7 (fun v L' => v = .bool true ∧ Le L L') ⟨some ⟨b47, 0, none⟩, g.rules.length, g.rules.length⟩ so ((so.n : Nat) : Int) ((i : Nat) : Int) g.terms g.nons g.start sg g.terms g.nons g.start sr L5 := by
    refine down ?_ ?_
    · intro L5 hp hoff
      have hle5 : Le L3 L5 := hp.le (by rw [hoff]; exact .refl L3)
      apply parlkeep2_GramSortedOnce.go7
      refine bcD (fun h => absurd h (by omega)) fun _ => ?_
      refine (Sorted_spec (g := sortedG g o) (hsr.mono (hle3.trans hle5).toLeM)).mono ?_
      rintro v L6 ⟨hle6, ⟨h, _⟩ | ⟨_, o', so', sr', ho', rfl, hsr', hso'⟩⟩
      · exact absurd (chk_zero.2 (sortedG_valid hv ho)) h
      refine ⟨_, _, _, sr', so', _, rfl, bcT (by rfl) ?_⟩
      have e := sorted_again ho ho'
      refine (gSame_ro (a := sortedG (sortedG g o) o') (b := sortedG g o) hsr' (hsr.mono ((hle3.trans hle5).trans hle6).toLeM) ?_ ?_).use ⟨_, rfl, by rw [e]; simp, (hle03.trans hle5).trans hle6⟩
      · rw [e]; simp only [sortedG, List.length_map]; omega
      · rw [e]
        intro r hr
        have := ((sortedG_valid hv ho).ok r hr).2
        omega
    · intro i hi ih L5 hp hoff
      have hle5 : Le L3 L5 := hp.le (by rw [hoff]; exact .refl L3)
      rw [List.take_succ_eq_append_getElem hi] at ih
      have hoi : (o.map fun n : Nat => (n : Int))[i]? = some ((o[i] : Nat) : Int) := by rw [List.getElem?_map, List.getElem?_eq_getElem hi]; rfl
      have hlt := ho.lt (List.getElem_mem hi)
      have hri := ho.get hi
      have hnew : o[i] ∉ o.take i := fun hm => by
        obtain ⟨j, hj, e⟩ := List.getElem_of_mem hm
        rw [List.getElem_take] at e
        have hnd : o.Nodup := ho.perm.nodup_iff.2 List.nodup_range
        have := (List.getElem_inj hnd).1 e
        rw [List.length_take] at hj
        omega
      have hrl := valid_right hv hlt
      have hprev : 0 < i → cmpR (rAt g (o[i - 1]'(by omega))) (rAt g o[i]) < 0 := fun h0 => by
        have := ho.inc
        rw [List.pairwise_iff_getElem] at this
        exact this (i - 1) i (by omega) hi (by omega)
      have hprl : 0 < i → (rAt g (o[i - 1]'(by omega))).right.length ≤ 4 := fun h0 => valid_right hv (ho.lt (List.getElem_mem (by omega)))
      have hri' : 0 < i → (o.map (rAt g))[i - 1]? = some (rAt g (o[i - 1]'(by omega))) := fun h0 => ho.get (by omega)
      generalize hq : o[i] = q at *
      have hsr5 := hsr.mono (hle3.trans hle5).toLeM
      have hsg5 := hsg.mono (hle13.trans hle5).toLeM
      apply parlkeep2_GramSortedOnce.go7
      refine bcD (fun _ => ?_) fun h => absurd (by omega) h
      refine (hso.mono (hle3.trans hle5).toLeM).get hoi fun a1 cs1 hK1 hc1 => ?_
      obtain rfl := hK1
      refine ⟨_, reads_one hc1, bcD (fun h => absurd h (by omega)) fun _ => bcD (fun h => absurd h (by simp only; omega)) fun _ => ?_⟩
      refine hp.get (seenL_get hlt) fun a2 ha2 => ⟨_, ha2, bcF (decide_eq_false hnew) ?_⟩
      have c11 : parlkeep2_GramSortedOnce.c11 (fun v L' => v = .bool true ∧ Le L L') ⟨some ⟨b47, 0, none⟩, g.rules.length, g.rules.length⟩ ((q : Nat) : Int) so ((so.n : Nat) : Int) ((i : Nat) : Int) g.terms g.nons g.start sg g.terms g.nons g.start sr L5 := by
        apply parlkeep2_GramSortedOnce.go11
        refine hp.set (i := q) (by simp [seenL]; exact hlt) (x := true) rfl fun L6 hp6 ho6 => ?_
        apply parlkeep2_GramSortedOnce.go12
        unfold parlkeep2_GramSortedOnce.t12
        rw [add_one (by omega)]
        rw [seenL_set] at hp6
        exact ih L6 hp6 (ho6.trans hoff)
      have rest : ∀ s1 s2 : Sl, IsSl rSym L5 s1 (rAt g q).right → IsSl rSym L5 s2 (rAt g q).right → ACalls PP gram_Compare.id [.agg #[.int .i64 (rAt g q).left, .slice s1.a s1.n s1.c], .agg #[.int .i64 (rAt g q).left, .slice s2.a s2.n s2.c]] L5 fun v LL => ∃ x80, v = .int .i64 x80 ∧
          bc (x80 != (0)) (parlkeep2_GramSortedOnce.c10 (fun v L' => v = .bool true ∧ Le L L') LL) (bc (decide (((i : Nat) : Int) > (0))) (ptrK sr.a fun x91 => (0 ≤ w64 (((i : Nat) : Int) - 1) ∧ w64 (((i : Nat) : Int) - 1) < ((sr.n : Nat) : Int)) ∧ ∃ x92_0, ∃ x92_1 : Sl, LL.reads (x91.add (Int.toNat (w64 (((i : Nat) : Int) - 1)) * 2)) 0 [.int .i64 x92_0, .slice x92_1.a x92_1.n x92_1.c] ∧ ptrK sr.a fun x96 => (0 ≤ ((i : Nat) : Int) ∧ ((i : Nat) : Int) < ((sr.n : Nat) : Int)) ∧ ∃ x97_0, ∃ x97_1 : Sl, LL.reads (x96.add (Int.toNat ((i : Nat) : Int) * 2)) 0 [.int .i64 x97_0, .slice x97_1.a x97_1.n x97_1.c] ∧ ACalls PP gram_Compare.id [.agg #[.int .i64 x92_0, .slice x92_1.a x92_1.n x92_1.c], .agg #[.int .i64 x97_0, .slice x97_1.a x97_1.n x97_1.c]] LL fun v LL => ∃ x98, v = .int .i64 x98 ∧
            bc (decide (x98 ≥ (0))) (parlkeep2_GramSortedOnce.c10 (fun v L' => v = .bool true ∧ Le L L') LL) (parlkeep2_GramSortedOnce.c11 (fun v L' => v = .bool true ∧ Le L L') ⟨some ⟨b47, 0, none⟩, g.rules.length, g.rules.length⟩ ((q : Nat) : Int) so ((so.n : Nat) : Int) ((i : Nat) : Int) g.terms g.nons g.start sg g.terms g.nons g.start sr LL))
            (parlkeep2_GramSortedOnce.c11 (fun v L' => v = .bool true ∧ Le L L') ⟨some ⟨b47, 0, none⟩, g.rules.length, g.rules.length⟩ ((q : Nat) : Int) so ((so.n : Nat) : Int) ((i : Nat) : Int) g.terms g.nons g.start sg g.terms g.nons g.start sr LL)) := by
        intro s1 s2 h1 h2
        refine (gCompare_ro h1 h2 (by omega)).use ⟨_, rfl, bcF (by rw [(to_cmpR.eq _ _).2 rfl]; rfl) (bcD (fun h0 => ?_) fun _ => c11)⟩
        have h0 : 0 < i := by omega
        rw [show w64 (((i : Nat) : Int) - 1) = ((i - 1 : Nat) : Int) from wpred h0 (by omega)]
        refine hsr5.get (hri' h0) fun a3 cs3 hK3 hc3 => ?_
        obtain ⟨s3, rfl, h3⟩ := hK3
        refine ⟨_, s3, hc3, hsr5.get hri fun a4 cs4 hK4 hc4 => ?_⟩
        obtain ⟨s4, rfl, h4⟩ := hK4
        have := hprl h0
        have hlt' := hprev h0
        exact ⟨_, s4, hc4, (gCompare_ro h3 h4 (by omega)).use ⟨_, rfl, bcF (decide_eq_false (by omega)) c11⟩⟩
      refine hsr5.get hri fun a3 cs3 hK3 hc3 => ?_
      obtain ⟨s3, rfl, h3⟩ := hK3
      refine hsg5.get (rAt_get hlt) fun a4 cs4 hK4 hc4 => ?_
      obtain ⟨s4, rfl, h4⟩ := hK4
      exact ⟨⟨_, s3, hc3, _, s4, hc4, rest s3 s4 h3 h4⟩, _, s4, hc4, _, s3, hc3, rest s3 s4 h3 h4⟩
  refine key 0 (Nat.zero_le _) L4 ?_ ho0
  have e : seenL g.rules.length (o.take 0) = List.replicate g.rules.length false := by
    refine List.ext_getElem (by simp [seenL]) fun i h1 h2 => ?_
    simp [seenL]
  rw [e]; exact hp0
end Go.Proofs.Ytpgpognmdejdaaa
