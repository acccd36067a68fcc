/- parlref2.ReachedOf: a search in depth, by a function that calls itself. -/
import Derived.Test.YtjmpheidcofhnaaDoorVAll0
import Derived.Test.YtjmpheidcofhnaaDoorCTrim
import Derived.Test.YtjmpheidcofhnaaDoorLibD
set_option linter.all false
namespace Go.Proofs.YtjmpheidcofhnaaDoor
open Go Go.Proofs.YtjmpheidcofhnaaDoor.GH

/-- What a search from a nonterminal leaves. -/
structure Vis (g : Gram) (p : Rule → Bool) (n : Int) (out out' : List Bool) : Prop where
  len : out'.length = out.length
  mono : ∀ m : Nat, out.getD m false = true → out'.getD m false = true
  has : out'.getD n.toNat false = true
  clo : ∀ r ∈ g.rules, p r = true → out'.getD r.left.toNat false = true → out.getD r.left.toNat false = false → ∀ s ∈ r.right, s.term = false → out'.getD s.n.toNat false = true
  snd : (∀ m : Nat, m < out.length → out.getD m false = true → Rch g p m) → Rch g p n → ∀ m : Nat, m < out'.length → out'.getD m false = true → Rch g p m

theorem falses_mono : ∀ {xs ys : List Bool}, ys.length = xs.length → (∀ m : Nat, xs.getD m false = true → ys.getD m false = true) → falses ys ≤ falses xs
  | [], [], _, _ => Nat.le_refl _
  | [], _ :: _, h, _ => by simp at h
  | _ :: _, [], h, _ => by simp at h
  | x :: xs, y :: ys, hl, h => by
    have ih := falses_mono (xs := xs) (ys := ys) (by simpa using hl) fun m hm => by simpa using h (m + 1) (by simpa using hm)
    have h0 := h 0
    simp only [List.getD_cons_zero] at h0
    unfold falses at ih ⊢
    rw [List.countP_cons, List.countP_cons]
    cases x <;> cases y <;> simp at h0 ⊢ <;> omega

section
variable {g : Gram} {p : Rule → Bool} {fg : FuncId} {cap : List Value} {Lb L0 : GHeap} {M : Nat → Prop} {so sg : Sl} {t1 t2 t3 t4 : Addr}

theorem visit_spec (hv : Valid g) (hs : IsSl rRule Lb sg g.rules) (hf : TestR g fg cap p Lb) (m1 : Lb.mem t1 = some (.slice so.a so.n so.c)) (m2 : Lb.mem (t2.add 3) = some (.slice sg.a sg.n sg.c)) (m3 : Lb.mem t3 = some (.func (.func fg) #[] (List.toArray cap)))
    (m4 : Lb.mem t4 = some (.func (.func parlref2_ReachedOf_1.id) #[] (List.toArray [.pointer (some t1), .pointer (some t2), .pointer (some t3), .pointer (some t4)]))) : ∀ (d : Nat) (out : List Bool) (L : GHeap) (n : Int), falses out = d → out.length = g.nons.toNat → L.off M = Lb → PA Value.bool L0 L M so out → 0 ≤ n → n < g.nons →
    ACalls PP parlref2_ReachedOf_1.id [.int .i64 n, .pointer (some t1), .pointer (some t2), .pointer (some t3), .pointer (some t4)] L fun v L' => v = .tuple #[] ∧ L'.off M = Lb ∧ ∃ out', PA Value.bool L0 L' M so out' ∧ Vis g p n out out' := by
  intro d
  induction d using Nat.strongRecOn with
  | ind d ih =>
  intro out L n hd hol hoff hpa hn0 hn1
  have hmany := hv.many
  have up : ∀ {L' : GHeap}, L'.off M = Lb → LeM Lb L' := fun h => by rw [← h]; exact off_le
  have upL : ∀ {L' : GHeap}, L'.off M = Lb → Le Lb L' := fun h => by rw [← h]; exact off_Le
  have hlt : n.toNat < out.length := by omega
  have hget := List.getElem?_eq_getElem hlt
  apply parlref2_ReachedOf_1.go
  refine ⟨so, (up hoff).mem _ _ m1, hpa.getI hn0 hget fun a1 hc1 => ⟨_, hc1, bcI (fun ht => ?_) fun hfa => ?_⟩⟩
  · exact ⟨rfl, hoff, out, hpa, rfl, fun _ h => h, by rw [getB_get hlt]; exact ht, fun r _ _ h1 h2 => (by rw [h1] at h2; cases h2), fun h _ => h⟩
  refine ⟨so, (up hoff).mem _ _ m1, hpa.setI hn0 hlt (x := true) rfl fun L1 hpa1 ho1 => ?_⟩
  have hoff1 : L1.off M = Lb := ho1.trans hoff
  refine ⟨sg, (up hoff1).mem _ _ m2, ?_⟩
  have hof : out.getD n.toNat false = false := by rw [getB_get hlt]; exact hfa
  have hfl : falses (out.set n.toNat true) < d := by
    have hc := countB_set (p := fun b => !b) (v := true) hlt
    rw [hfa] at hc
    simp at hc
    rw [← hd]
    unfold falses; omega
  have hol1 : (out.set n.toNat true).length = g.nons.toNat := by rw [List.length_set]; exact hol
  have h1get : ∀ m : Nat, (out.set n.toNat true).getD m false = if m = n.toNat then true else out.getD m false := fun m => getB_set hlt m
  generalize out.set n.toNat true = out1 at *
  have hsn := hs.n
  -- what holds on the way
  have loop : ∀ i, i ≤ g.rules.length → ∀ (L2 : GHeap) (out2 : List Bool), L2.off M = Lb → PA Value.bool L0 L2 M so out2 → out2.length = g.nons.toNat → (∀ m : Nat, out1.getD m false = true → out2.getD m false = true) →
      (∀ r ∈ g.rules, p r = true → out2.getD r.left.toNat false = true → out1.getD r.left.toNat false = false → ∀ s ∈ r.right, s.term = false → out2.getD s.n.toNat false = true) →
      (∀ k r, k < i → g.rules[k]? = some r → p r = true → r.left = n → ∀ s ∈ r.right, s.term = false → out2.getD s.n.toNat false = true) →
      ((∀ m : Nat, m < out.length → out.getD m false = true → Rch g p m) → Rch g p n → ∀ m : Nat, m < out2.length → out2.getD m false = true → Rch g p m) →
      parlref2_ReachedOf_1.c3 (fun v L' => v = .tuple #[] ∧ L'.off M = Lb ∧ ∃ out', PA Value.bool L0 L' M so out' ∧ Vis g p n out out') n t3 t4 sg ((sg.n : Nat) : Int) ((i : Nat) : Int) L2 := by
    refine down ?_ ?_
    · intro L2 out2 ho2 hp2 hl2 hm2 hc2 hr2 hs2
      apply parlref2_ReachedOf_1.go3
      refine bcD (fun h => absurd h (by omega)) fun _ => ⟨rfl, ho2, out2, hp2, by omega, fun m hm => hm2 m (by rw [h1get]; split; rfl; exact hm), hm2 _ (by rw [h1get, if_pos rfl]), fun r hr hpr h1 h2 s hs' ht => ?_, hs2⟩
      have hleft := (hv.ok r hr).1.left
      by_cases e : r.left = n
      · obtain ⟨k, hk⟩ := List.getElem?_of_mem hr
        exact hr2 k r (List.getElem?_eq_some_iff.1 hk).1 hk hpr e s hs' ht
      · exact hc2 r hr hpr h1 (by rw [h1get, if_neg (by omega)]; exact h2) s hs' ht
    · intro i hi ihi L2 out2 ho2 hp2 hl2 hm2 hc2 hr2 hs2
      obtain ⟨hleft, hrt⟩ := (hv.ok _ (List.getElem_mem hi)).1
      have hrl := (hv.ok _ (List.getElem_mem hi)).2
      have hnt : ∀ s ∈ g.rules[i].right, s.term = false → 0 ≤ s.n ∧ s.n < g.nons := fun s hs' ht => by have h := hrt s hs'; exact ⟨h.1, h.2.2 ht⟩
      have next : ∀ (L3 : GHeap) (out3 : List Bool), L3.off M = Lb → PA Value.bool L0 L3 M so out3 → out3.length = g.nons.toNat → (∀ m : Nat, out1.getD m false = true → out3.getD m false = true) →
          (∀ r ∈ g.rules, p r = true → out3.getD r.left.toNat false = true → out1.getD r.left.toNat false = false → ∀ s ∈ r.right, s.term = false → out3.getD s.n.toNat false = true) →
          (∀ k r, k < i + 1 → g.rules[k]? = some r → p r = true → r.left = n → ∀ s ∈ r.right, s.term = false → out3.getD s.n.toNat false = true) →
          ((∀ m : Nat, m < out.length → out.getD m false = true → Rch g p m) → Rch g p n → ∀ m : Nat, m < out3.length → out3.getD m false = true → Rch g p m) →
          parlref2_ReachedOf_1.c12 (fun v L' => v = .tuple #[] ∧ L'.off M = Lb ∧ ∃ out', PA Value.bool L0 L' M so out' ∧ Vis g p n out out') n t3 t4 sg ((sg.n : Nat) : Int) ((i : Nat) : Int) L3 := by
        intro L3 out3 a1 a2 a3 a4 a5 a6 a7
        apply parlref2_ReachedOf_1.go12
        unfold parlref2_ReachedOf_1.t12
        rw [add_one (by omega)]
        exact ihi L3 out3 a1 a2 a3 a4 a5 a6 a7
      have skip : ¬ (g.rules[i].left = n ∧ p g.rules[i] = true) → parlref2_ReachedOf_1.c12 (fun v L' => v = .tuple #[] ∧ L'.off M = Lb ∧ ∃ out', PA Value.bool L0 L' M so out' ∧ Vis g p n out out') n t3 t4 sg ((sg.n : Nat) : Int) ((i : Nat) : Int) L2 := fun hno =>
        next L2 out2 ho2 hp2 hl2 hm2 hc2 (fun k r hk hr hpr hrn => by
          rcases Nat.lt_or_eq_of_le (Nat.le_of_lt_succ hk) with h | rfl
          · exact hr2 k r h hr hpr hrn
          · rw [List.getElem?_eq_getElem hi] at hr; cases hr; exact absurd ⟨hrn, hpr⟩ hno) hs2
      apply parlref2_ReachedOf_1.go3
      refine bcD (fun _ => ?_) fun h => absurd (by omega) h
      refine hs.get (List.getElem?_eq_getElem hi) fun a cs hK hc => ?_
      obtain ⟨sr, rfl, hsr⟩ := hK
      refine ⟨_, _, (up ho2).reads hc, bcNE (fun hne => skip fun h => hne h.1) fun heq => ?_⟩
      refine ⟨fg, cap, (up ho2).mem _ _ m3, ?_⟩
      refine (hf _ sr L2 (List.getElem_mem hi) (upL ho2) (hsr.mono (up ho2))).use ⟨_, rfl, bcN (bcI (fun hgp => ?_) fun hgp => skip fun h => by rw [hgp] at h; cases h.2)⟩
      have hrn := hsr.n
      have syms : ∀ j, j ≤ g.rules[i].right.length → ∀ (L3 : GHeap) (out3 : List Bool), L3.off M = Lb → PA Value.bool L0 L3 M so out3 → out3.length = g.nons.toNat → (∀ m : Nat, out1.getD m false = true → out3.getD m false = true) →
          (∀ r ∈ g.rules, p r = true → out3.getD r.left.toNat false = true → out1.getD r.left.toNat false = false → ∀ s ∈ r.right, s.term = false → out3.getD s.n.toNat false = true) →
          (∀ k r, k < i → g.rules[k]? = some r → p r = true → r.left = n → ∀ s ∈ r.right, s.term = false → out3.getD s.n.toNat false = true) →
          (∀ s ∈ g.rules[i].right.take j, s.term = false → out3.getD s.n.toNat false = true) →
          ((∀ m : Nat, m < out.length → out.getD m false = true → Rch g p m) → Rch g p n → ∀ m : Nat, m < out3.length → out3.getD m false = true → Rch g p m) →
          parlref2_ReachedOf_1.c7 (fun v L' => v = .tuple #[] ∧ L'.off M = Lb ∧ ∃ out', PA Value.bool L0 L' M so out' ∧ Vis g p n out out') n t3 t4 sg ((sg.n : Nat) : Int) ((i : Nat) : Int) sr ((sr.n : Nat) : Int) ((j : Nat) : Int) L3 := by
        refine down ?_ ?_
        · intro L3 out3 a1 a2 a3 a4 a5 a6 a7 a8
          rw [List.take_length] at a7
          apply parlref2_ReachedOf_1.go7
          refine bcD (fun h => absurd h (by omega)) fun _ => next L3 out3 a1 a2 a3 a4 a5 (fun k r hk hr hpr hrn' => ?_) a8
          rcases Nat.lt_or_eq_of_le (Nat.le_of_lt_succ hk) with h | rfl
          · exact a6 k r h hr hpr hrn'
          · rw [List.getElem?_eq_getElem hi] at hr; cases hr; exact a7
        · intro j hj ihj L3 out3 a1 a2 a3 a4 a5 a6 a7 a8
          rw [List.take_succ_eq_append_getElem hj] at ihj
          have nx : ∀ (L4 : GHeap) (out4 : List Bool), L4.off M = Lb → PA Value.bool L0 L4 M so out4 → out4.length = g.nons.toNat → (∀ m : Nat, out1.getD m false = true → out4.getD m false = true) →
              (∀ r ∈ g.rules, p r = true → out4.getD r.left.toNat false = true → out1.getD r.left.toNat false = false → ∀ s ∈ r.right, s.term = false → out4.getD s.n.toNat false = true) →
              (∀ k r, k < i → g.rules[k]? = some r → p r = true → r.left = n → ∀ s ∈ r.right, s.term = false → out4.getD s.n.toNat false = true) →
              (∀ s ∈ g.rules[i].right.take j ++ [g.rules[i].right[j]], s.term = false → out4.getD s.n.toNat false = true) →
              ((∀ m : Nat, m < out.length → out.getD m false = true → Rch g p m) → Rch g p n → ∀ m : Nat, m < out4.length → out4.getD m false = true → Rch g p m) →
              parlref2_ReachedOf_1.c11 (fun v L' => v = .tuple #[] ∧ L'.off M = Lb ∧ ∃ out', PA Value.bool L0 L' M so out' ∧ Vis g p n out out') n t3 t4 sg ((sg.n : Nat) : Int) ((i : Nat) : Int) sr ((sr.n : Nat) : Int) ((j : Nat) : Int) L4 := by
            intro L4 out4 b1 b2 b3 b4 b5 b6 b7 b8
            apply parlref2_ReachedOf_1.go11
            unfold parlref2_ReachedOf_1.t11
            rw [add_one (by omega)]
            exact ihj L4 out4 b1 b2 b3 b4 b5 b6 b7 b8
          apply parlref2_ReachedOf_1.go7
          refine bcD (fun _ => ?_) fun h => absurd (by omega) h
          refine hsr.get (List.getElem?_eq_getElem hj) fun a2' cs2 hK2 hc2' => ?_
          obtain rfl := hK2
          refine ⟨_, _, (up a1).reads hc2', bcN (bcI (fun ht => ?_) fun ht => ?_)⟩
          · refine nx L3 out3 a1 a2 a3 a4 a5 a6 (fun s hs' hst => ?_) a8
            rcases List.mem_append.1 hs' with h | h
            · exact a7 s h hst
            · rw [List.mem_singleton] at h; subst h; rw [ht] at hst; cases hst
          · obtain ⟨s0, s1⟩ := hnt _ (List.getElem_mem hj) ht
            refine ⟨parlref2_ReachedOf_1.id, [.pointer (some t1), .pointer (some t2), .pointer (some t3), .pointer (some t4)], (up a1).mem _ _ m4, ?_⟩
            have hf3 : falses out3 < d := Nat.lt_of_le_of_lt (falses_mono (by omega) a4) hfl
            refine (ih _ hf3 out3 L3 g.rules[i].right[j].n rfl a3 a1 a2 s0 s1).mono ?_
            rintro v L4 ⟨rfl, b1, out4, b2, bv⟩
            refine ⟨rfl, nx L4 out4 b1 b2 (by rw [bv.len]; exact a3) (fun m hm => bv.mono m (a4 m hm)) (fun r hr hpr h1 h2 s hs' hst => ?_) (fun k r hk hr hpr hrn' s hs' hst => bv.mono _ (a6 k r hk hr hpr hrn' s hs' hst)) (fun s hs' hst => ?_) fun hA hB m hm hh => ?_⟩
            · by_cases e : out3.getD r.left.toNat false = true
              · exact bv.mono _ (a5 r hr hpr e h2 s hs' hst)
              · exact bv.clo r hr hpr h1 (by simpa using e) s hs' hst
            · rcases List.mem_append.1 hs' with h | h
              · exact bv.mono _ (a7 s h hst)
              · rw [List.mem_singleton] at h; subst h; exact bv.has
            · refine bv.snd (a8 hA hB) ?_ m hm hh
              have hL := hB
              rw [← heq] at hL
              exact .step (List.getElem_mem hi) hgp hL (List.getElem_mem hj) ht
      exact syms 0 (Nat.zero_le _) L2 out2 ho2 hp2 hl2 hm2 hc2 hr2 (by simp) hs2
  refine loop 0 (Nat.zero_le _) L1 out1 hoff1 hpa1 hol1 (fun _ h => h) (fun r hr hpr h1 h2 => by rw [h1] at h2; cases h2) (fun k r hk => by omega) fun hA hB m hm hh => ?_
  rw [h1get] at hh
  split at hh
  · rename_i e
    have : ((m : Nat) : Int) = n := by omega
    rw [this]; exact hB
  · exact hA m (by omega) hh
end

theorem Vis.rspec {g : Gram} {p : Rule → Bool} {out out' : List Bool} (hv : Valid g) (h : Vis g p g.start out out') (hl : out.length = g.nons.toNat) (h0 : ∀ m : Nat, out.getD m false = false) : RSpec g p out' := by
  have hst := hv.start
  refine ⟨by rw [h.len]; exact hl, fun n hn0 hn1 => ⟨fun hh => ?_, fun hr => ?_⟩⟩
  · have := h.snd (fun m _ hm => by rw [h0] at hm; cases hm) .start n.toNat (by rw [h.len, hl]; omega) hh
    rwa [Int.toNat_of_nonneg hn0] at this
  · induction hr with
    | start => exact h.has
    | @step r s hr hpr _ hs ht ih =>
      have hleft := (hv.ok r hr).1.left
      exact h.clo r hr hpr (ih hleft.1 hleft.2) (h0 _) s hs ht

theorem replicate_false {n m : Nat} : (List.replicate n false).getD m false = false := by rw [List.getD_eq_getElem?_getD, List.getElem?_replicate]; split <;> rfl

theorem ReachedOf_spec {L : GHeap} {g : Gram} {sg : Sl} {p : Rule → Bool} {fg : FuncId} {cap : List Value} (hv : Valid g) (hs : IsSl rRule L sg g.rules) (hf : TestR g fg cap p L) :
    ACalls PP parlref2_ReachedOf.id [gramV g sg, .func (.func fg) #[] (List.toArray cap)] L fun v L' => Le L L' ∧ ∃ (so : Sl) (out : List Bool), v = .slice so.a so.n so.c ∧ IsSl rB L' so out ∧ RSpec g p out := by
  have hnn := hv.nons
  have hst := hv.start
  apply parlref2_ReachedOf.go
  intro b2 hu2
  simp only [inL]
  have le2 := Le.alloc hu2 [.int .i64 g.terms, .int .i64 g.nons, .int .i64 g.start, .slice sg.a sg.n sg.c] 4
  have k2 : ∀ i v, [Value.int .i64 g.terms, .int .i64 g.nons, .int .i64 g.start, .slice sg.a sg.n sg.c][i]? = some v → (L.alloc b2 [.int .i64 g.terms, .int .i64 g.nons, .int .i64 g.start, .slice sg.a sg.n sg.c] 4).mem ⟨b2, i, none⟩ = some v := fun i v h => by rw [alloc_mem]; exact h
  generalize L.alloc b2 [.int .i64 g.terms, .int .i64 g.nons, .int .i64 g.start, .slice sg.a sg.n sg.c] 4 = L1 at *
  intro b3 hu3
  have le3 := Le.alloc hu3 [.func (.func fg) #[] (List.toArray cap)] 1
  have k3 : (L1.alloc b3 [.func (.func fg) #[] (List.toArray cap)] 1).mem ⟨b3, 0, none⟩ = some (.func (.func fg) #[] (List.toArray cap)) := by rw [alloc_mem]; rfl
  generalize L1.alloc b3 [.func (.func fg) #[] (List.toArray cap)] 1 = L2 at *
  refine ⟨g.nons, le3.mem _ _ (k2 1 _ rfl), ⟨by omega, by omega, by omega⟩, fun b9 hu9 => ?_⟩
  rw [Nat.mul_one]
  have hle02 := le2.trans le3
  obtain ⟨hpa, hoff⟩ := PA.new (f := Value.bool) (L0 := L) (z := false) (v := .bool false) (n := g.nons.toNat) rfl hu9 hle02.toLeM (by omega)
  generalize L2.alloc b9 (zeros g.nons.toNat [.bool false]) g.nons.toNat = L3 at *
  have lb9 : ∀ b, L3.unused b → ¬ (fun x => x = b9) b := fun b hu hb => hpa.live.not hu hb
  have hle03 : Le L L3 := hpa.le (by rw [hoff]; exact hle02)
  intro b5 hu5
  obtain ⟨c1, c2, c3, c4⟩ := cell_new hu5 (.slice none 0 0) (.slice (some ⟨b9, 0, none⟩) g.nons.toNat g.nons.toNat)
  refine ⟨c1, ?_⟩
  have hpa5 := hpa.same (c4 _ (lb9 _ hu5))
  have n5 := lb9 _ hu5
  generalize (L3.alloc b5 [.slice none 0 0] 1).sets ⟨b5, 0, none⟩ 0 [.slice (some ⟨b9, 0, none⟩) g.nons.toNat g.nons.toNat] = L5 at *
  intro b6 hu6
  obtain ⟨d1, d2, d3, d4⟩ := cell_new hu6 .nilFunc (.func (.func parlref2_ReachedOf_1.id) #[] #[.pointer (some ⟨b5, 0, none⟩), .pointer (some ⟨b2, 0, none⟩), .pointer (some ⟨b3, 0, none⟩), .pointer (some ⟨b6, 0, none⟩)])
  refine ⟨d1, ?_⟩
  have n6 : ¬ (fun x => x = b9) b6 := hpa5.live.not hu6
  have hpa6 := hpa5.same (d4 _ n6)
  have hle06 : Le L _ := (hle03.trans c3).trans d3
  generalize (L5.alloc b6 [.nilFunc] 1).sets ⟨b6, 0, none⟩ 0 [.func (.func parlref2_ReachedOf_1.id) #[] #[.pointer (some ⟨b5, 0, none⟩), .pointer (some ⟨b2, 0, none⟩), .pointer (some ⟨b3, 0, none⟩), .pointer (some ⟨b6, 0, none⟩)]] = L6 at *
  have n2 : ∀ (b : Nat) (v : Value), L2.mem ⟨b, 0, none⟩ = some v → b ≠ b9 := fun b v h => mem_block (a := ⟨b, 0, none⟩) hu9 h
  have h23 : LeM L2 L3 := by rw [← hoff]; exact off_le
  have l36 : LeM L2 L6 := h23.trans (c3.trans d3).toLeM
  have q2 : ∀ i v, [Value.int .i64 g.terms, .int .i64 g.nons, .int .i64 g.start, .slice sg.a sg.n sg.c][i]? = some v → L2.mem ⟨b2, i, none⟩ = some v := fun i v h => le3.mem _ _ (k2 i v h)
  have n2' := n2 _ _ (q2 0 _ rfl)
  have n3' := n2 _ _ k3
  refine ⟨parlref2_ReachedOf_1.id, [.pointer (some ⟨b5, 0, none⟩), .pointer (some ⟨b2, 0, none⟩), .pointer (some ⟨b3, 0, none⟩), .pointer (some ⟨b6, 0, none⟩)], d2, g.start, l36.mem _ _ (q2 2 _ rfl), ?_⟩
  have hu0 : L.unused b9 := hle02.toLeM.unused hu9
  have hleb : Le L (L6.off (· = b9)) := le_off hle06 fun c hc => by subst hc; exact hu0
  have hol : (List.replicate g.nons.toNat false).length = g.nons.toNat := by simp
  refine (visit_spec (g := g) (p := p) (fg := fg) (cap := cap) (Lb := L6.off (· = b9)) (sg := sg) (so := ⟨some ⟨b9, 0, none⟩, g.nons.toNat, g.nons.toNat⟩) (t1 := ⟨b5, 0, none⟩) (t2 := ⟨b2, 0, none⟩) (t3 := ⟨b3, 0, none⟩) (t4 := ⟨b6, 0, none⟩) hv (hs.mono hleb.toLeM) (fun r sr L' hr hle hsr => hf r sr L' hr (hleb.trans hle) hsr)
    (by rw [off_mem n5]; exact d3.mem _ _ c2) (by rw [spot_add, off_mem n2']; exact l36.mem _ _ (q2 3 _ rfl)) (by rw [off_mem n3']; exact l36.mem _ _ k3) (by rw [off_mem n6]; exact d2) _ _ L6 g.start rfl hol rfl hpa6 hst.1 hst.2).mono ?_
  rintro v L7 ⟨rfl, hoff7, out', hpa7, hvis⟩
  refine ⟨rfl, ⟨some ⟨b9, 0, none⟩, g.nons.toNat, g.nons.toNat⟩, ?_, hpa7.le (by rw [hoff7]; exact hleb), _, out', rfl, hpa7.isBool, hvis.rspec hv hol fun m => replicate_false⟩
  have h7 : (L7.off (· = b9)).mem ⟨b5, 0, none⟩ = some (.slice (some ⟨b9, 0, none⟩) g.nons.toNat g.nons.toNat) := by rw [hoff7, off_mem n5]; exact d3.mem _ _ c2
  rwa [off_mem n5] at h7
end Go.Proofs.YtjmpheidcofhnaaDoor
