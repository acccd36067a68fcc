/- parlref2.LeastOf: words that are improved until nothing changes. -/
import Derived.Test.YtjmpheidcofhnaaDoorVAll2
import Derived.Test.YtjmpheidcofhnaaDoorCLengthsOf
import Derived.Test.YtjmpheidcofhnaaDoorCLeastOfLaw
import Derived.Test.YtjmpheidcofhnaaDoorCLeast2
import Derived.Test.YtjmpheidcofhnaaDoorCTrim
set_option linter.all false
namespace Go.Proofs.YtjmpheidcofhnaaDoor
open Go Go.Proofs.YtjmpheidcofhnaaDoor.GH

theorem LenSpec.one {g : Gram} {a b : List Int} (hv : Valid g) (h : LenSpec g a) (h' : LenSpec g b) : a = b := by rw [← rnds_lens hv h, rnds_lens hv h']

section
variable {g : Gram} {lens : List Int} {Lb : GHeap} {sg sl : Sl} {b1 b2 : Nat} {n : Int} {K : Value → GHeap → Prop}

theorem LeastOf_c5 (hv : Valid g) (hl : LenSpec g lens) (hs : IsSl rRule Lb sg g.rules) (hsl : IsSl rI Lb sl lens) (hn : 0 ≤ n ∧ n < g.nons) (hpos : 0 ≤ atI lens n) (hbig : atI lens n ≤ 2000)
    (hK : ∀ (L' : GHeap) (so : Sl) (w : List Int), Le Lb L' → IsSl rI L' so w → LW g n w → K (.slice so.a so.n so.c) L') :
    ∀ (d : Nat) (ss : List Sl) (words : List (List Int)) (done : List Bool) (L4 : GHeap), lfM g words done = d → LWS Lb L4 b1 b2 g.nons.toNat ss words done → LfOk g lens words done →
    parlref2_LeastOf.c5 K n sl ⟨some ⟨b1, 0, none⟩, g.nons.toNat, g.nons.toNat⟩ ⟨some ⟨b2, 0, none⟩, g.nons.toNat, g.nons.toNat⟩ true g.terms g.nons g.start sg L4 := by
  intro d
  have hnn := hv.nons
  have hmany := hv.many
  have hll := hl.len
  have hsn := hs.n
  induction d using Nat.strongRecOn with
  | ind d ih =>
  intro ss0 words0 done0 L40 hd h0 hok0
  apply parlref2_LeastOf.go5
  refine bcT rfl ?_
  have loop : ∀ k, k ≤ g.rules.length → ∀ (ss : List Sl) (words : List (List Int)) (done : List Bool) (L5 : GHeap) (again : Bool), LWS Lb L5 b1 b2 g.nons.toNat ss words done → LfOk g lens words done → (again = true → lfM g words done < lfM g words0 done0) → (again = false → words = words0 ∧ done = done0 ∧ ∀ k' r, k' < k → g.rules[k']? = some r → LfClosed lens words done r) →
      parlref2_LeastOf.c8 K n sl ⟨some ⟨b1, 0, none⟩, g.nons.toNat, g.nons.toNat⟩ ⟨some ⟨b2, 0, none⟩, g.nons.toNat, g.nons.toNat⟩ again sg ((sg.n : Nat) : Int) ((k : Nat) : Int) g.terms g.nons g.start sg L5 := by
    refine down ?_ ?_
    · intro ss words done L5 again h hok h1 h2
      apply parlref2_LeastOf.go8
      refine bcD (fun h => absurd h (by omega)) fun _ => ?_
      cases again with
      | true => exact ih _ (by have := h1 rfl; omega) ss words done L5 rfl h hok
      | false =>
        obtain ⟨_, _, hcl⟩ := h2 rfl
        have hc : ∀ r ∈ g.rules, LfClosed lens words done r := fun r hr => let ⟨k, hk⟩ := List.getElem?_of_mem hr; hcl k r (List.getElem?_eq_some_iff.1 hk).1 hk
        have hwl := hok.wl
        have hlt : n.toNat < words.length := by omega
        have hlw := hok.least hv hl hc hn.1 hn.2 hpos hbig
        have e : words.getD n.toNat [] = words[n.toNat] := by rw [List.getD_eq_getElem?_getD, List.getElem?_eq_getElem hlt]; rfl
        rw [e] at hlw
        apply parlref2_LeastOf.go5
        refine bcF rfl (h.isSl.getI hn.1 (List.getElem?_eq_getElem hlt) fun a cs hK' hc' => ?_)
        obtain ⟨so, rfl, hso⟩ := hK'
        exact ⟨so, reads_one hc', hK L5 so _ h.base hso hlw⟩
    · intro k hk ihk ss words done L5 again h hok h1 h2
      have hle5 := h.base
      obtain ⟨⟨hrl, hrt⟩, hlen⟩ := hv.ok _ (List.getElem_mem hk)
      have hnt := nt_ok hv (List.getElem_mem hk)
      have hdl := hok.dl
      have hwl := hok.wl
      have hllt : g.rules[k].left.toNat < lens.length := by omega
      have hdlt : g.rules[k].left.toNat < done.length := by omega
      have hwlt : g.rules[k].left.toNat < words.length := by omega
      have hla := atI_get (n := g.rules[k].left) (List.getElem?_eq_getElem hllt)
      have next : ∀ ss' words' done' L6 again', LWS Lb L6 b1 b2 g.nons.toNat ss' words' done' → LfOk g lens words' done' → (again' = true → lfM g words' done' < lfM g words0 done0) → (again' = false → words' = words0 ∧ done' = done0 ∧ ∀ k' r, k' < k + 1 → g.rules[k']? = some r → LfClosed lens words' done' r) →
          parlref2_LeastOf.c23 K n sl ⟨some ⟨b1, 0, none⟩, g.nons.toNat, g.nons.toNat⟩ ⟨some ⟨b2, 0, none⟩, g.nons.toNat, g.nons.toNat⟩ again' sg ((sg.n : Nat) : Int) ((k : Nat) : Int) g.terms g.nons g.start sg L6 := by
        intro ss' words' done' L6 again' a1 a2 a3 a4
        apply parlref2_LeastOf.go23
        unfold parlref2_LeastOf.t23
        rw [add_one (by omega)]
        exact ihk ss' words' done' L6 again' a1 a2 a3 a4
      have stay : ∀ L6, Le L5 L6 → LfClosed lens words done g.rules[k] → parlref2_LeastOf.c23 K n sl ⟨some ⟨b1, 0, none⟩, g.nons.toNat, g.nons.toNat⟩ ⟨some ⟨b2, 0, none⟩, g.nons.toNat, g.nons.toNat⟩ again sg ((sg.n : Nat) : Int) ((k : Nat) : Int) g.terms g.nons g.start sg L6 := fun L6 hle6 hcl =>
        next ss words done L6 again (h.mono hle6) hok h1 fun ha => ⟨(h2 ha).1, (h2 ha).2.1, fun k' r hk' hr => by
          rcases Nat.lt_or_eq_of_le (Nat.le_of_lt_succ hk') with h' | rfl
          · exact (h2 ha).2.2 k' r h' hr
          · rw [List.getElem?_eq_getElem hk] at hr; cases hr; exact hcl⟩
      apply parlref2_LeastOf.go8
      refine bcD (fun _ => ?_) fun h => absurd (by omega) h
      refine (hs.mono hle5.toLeM).get (List.getElem?_eq_getElem hk) fun a cs hK' hc => ?_
      obtain ⟨sr, rfl, hsr⟩ := hK'
      refine ⟨_, _, hc, fun b31 hu31 => ?_⟩
      simp only [inL]
      have le31 := Le.alloc hu31 [] 0
      generalize L5.alloc b31 [] 0 = L50 at le31
      have hrn := hsr.n
      have hwB : ∀ m, (wdO words m).length ≤ 2000 := fun m => (hok.dig m.toNat).1
      have scan : ∀ j, j ≤ g.rules[k].right.length → ∀ (L6 : GHeap) (sw : Sl) (ok : Bool), Le L5 L6 → Own L5 rI L6 sw (wcat (wdO words) (g.rules[k].right.take j)) → (ok = true ↔ allH done (g.rules[k].right.take j)) →
          parlref2_LeastOf.c13 K n sl ⟨some ⟨b1, 0, none⟩, g.nons.toNat, g.nons.toNat⟩ ⟨some ⟨b2, 0, none⟩, g.nons.toNat, g.nons.toNat⟩ again sw ok sg ((sg.n : Nat) : Int) ((k : Nat) : Int) sr ((sr.n : Nat) : Int) ((j : Nat) : Int) g.terms g.nons g.start sg g.rules[k].left sr L6 := by
        refine down ?_ ?_
        · intro L6 sw ok hle6 how hall
          rw [List.take_length] at how hall
          have h6 := h.mono hle6
          have hswn := how.sl.n
          have hwl4 : (wcat (wdO words) g.rules[k].right).length ≤ 16384 := by
            have := hok.wcatLen (ss := g.rules[k].right)
            have := Nat.mul_le_mul_right 2001 hlen
            omega
          have upd : allH done g.rules[k].right → ((wcat (wdO words) g.rules[k].right).length : Int) = atI lens g.rules[k].left → (wcat (wdO words) g.rules[k].right).length ≤ 2000 → (done.getD g.rules[k].left.toNat false = true → lexI (wcat (wdO words) g.rules[k].right) (words.getD g.rules[k].left.toNat []) < 0) →
              parlref2_LeastOf.c22 K n sl ⟨some ⟨b1, 0, none⟩, g.nons.toNat, g.nons.toNat⟩ ⟨some ⟨b2, 0, none⟩, g.nons.toNat, g.nons.toNat⟩ sw sg ((sg.n : Nat) : Int) ((k : Nat) : Int) g.terms g.nons g.start sg g.rules[k].left sr L6 := by
            intro x1 x2 x3 x4
            obtain ⟨o1, o2⟩ := hok.put hv (List.getElem_mem hk) x1 x2 x3 x4
            have hssl : ss.length = g.nons.toNat := h.p1.n.symm
            apply parlref2_LeastOf.go22
            unfold parlref2_LeastOf.t22
            simp only [and_self]
            refine h6.set hrl.1 (by omega) hdl hssl (h.own (by omega) how) fun L7 h7 => ?_
            refine next _ _ _ L7 true h7 o1 (fun _ => ?_) (fun h => by cases h)
            have : lfM g words done ≤ lfM g words0 done0 := by
              cases again with
              | true => exact Nat.le_of_lt (h1 rfl)
              | false => rw [(h2 rfl).1, (h2 rfl).2.1]; exact Nat.le_refl _
            omega
          apply parlref2_LeastOf.go13
          refine bcD (fun h => absurd h (by omega)) fun _ => bcN (bcI (fun ht => ?_) fun hf => stay L6 hle6 fun x1 => by rw [hall.2 x1] at hf; cases hf)
          have hall' := hall.1 ht
          refine (hsl.mono (hle5.trans hle6).toLeM).getI hrl.1 (List.getElem?_eq_getElem hllt) fun a3 cs3 hK3 hc3 => ?_
          obtain rfl := hK3
          refine ⟨_, reads_one hc3, bcNE (fun hne => stay L6 hle6 fun _ x2 => absurd (by omega) hne) fun heq => bcD (fun hgt => stay L6 hle6 fun _ _ x3 => by omega) fun hle => ?_⟩
          refine h6.p2.getI hrl.1 (List.getElem?_eq_getElem hdlt) fun a4 hc4 => ⟨_, hc4, bcN (bcI (fun hdt => ?_) fun hdf => upd hall' (by omega) (by omega) fun hd => by rw [getB_get hdlt, hdf] at hd; cases hd)⟩
          refine h6.isSl.getI hrl.1 (List.getElem?_eq_getElem hwlt) fun a5 cs5 hK5 hc5 => ?_
          obtain ⟨s5, rfl, hs5⟩ := hK5
          have e5 : words.getD g.rules[k].left.toNat [] = words[g.rules[k].left.toNat] := by rw [List.getD_eq_getElem?_getD, List.getElem?_eq_getElem hwlt]; rfl
          refine ⟨s5, reads_one hc5, (CompareI_ro how.sl hs5 (by omega)).use ⟨_, rfl, bcD (fun hlt => upd hall' (by omega) (by omega) fun _ => by rw [e5]; exact hlt) fun hnlt => stay L6 hle6 fun _ _ _ => ⟨by rw [getB_get hdlt]; exact hdt, by rw [e5]; exact hnlt⟩⟩⟩
        · intro j hj ihj L6 sw ok hle6 how hall
          have h6 := h.mono hle6
          have hcl : (wcat (wdO words) (g.rules[k].right.take j)).length ≤ 16384 := by
            have := hok.wcatLen (ss := g.rules[k].right.take j)
            have hl4 : (g.rules[k].right.take j).length ≤ 4 := by rw [List.length_take]; omega
            have := Nat.mul_le_mul_right 2001 hl4
            omega
          have etake : wcat (wdO words) (g.rules[k].right.take (j + 1)) = wcat (wdO words) (g.rules[k].right.take j) ++ (if g.rules[k].right[j].term = true then [g.rules[k].right[j].n] else wdO words g.rules[k].right[j].n) := by
            rw [List.take_succ_eq_append_getElem hj, wcat_append]; simp [wcat]
          have nx : ∀ L7 sw' ok', Le L5 L7 → Own L5 rI L7 sw' (wcat (wdO words) (g.rules[k].right.take (j + 1))) → (ok' = true ↔ allH done (g.rules[k].right.take j) ∧ (g.rules[k].right[j].term = false → done.getD g.rules[k].right[j].n.toNat false = true)) →
              parlref2_LeastOf.c19 K n sl ⟨some ⟨b1, 0, none⟩, g.nons.toNat, g.nons.toNat⟩ ⟨some ⟨b2, 0, none⟩, g.nons.toNat, g.nons.toNat⟩ again sw' ok' sg ((sg.n : Nat) : Int) ((k : Nat) : Int) sr ((sr.n : Nat) : Int) ((j : Nat) : Int) g.terms g.nons g.start sg g.rules[k].left sr L7 := by
            intro L7 sw' ok' a1 a2 a3
            apply parlref2_LeastOf.go19
            unfold parlref2_LeastOf.t19
            rw [add_one (by omega)]
            refine ihj L7 sw' ok' a1 a2 (a3.trans ⟨fun ⟨x, y⟩ s hs' hst => ?_, fun x => ⟨fun s hs' hst => ?_, fun hst => ?_⟩⟩)
            · rw [List.take_succ_eq_append_getElem hj] at hs'
              rcases List.mem_append.1 hs' with h' | h'
              · exact x s h' hst
              · rw [List.mem_singleton] at h'; subst h'; exact y hst
            · exact x s (by rw [List.take_succ_eq_append_getElem hj]; exact List.mem_append_left _ hs') hst
            · have hm := List.mem_append_right (g.rules[k].right.take j) (List.mem_singleton_self g.rules[k].right[j])
              rw [← List.take_succ_eq_append_getElem hj] at hm
              exact x _ hm hst
          apply parlref2_LeastOf.go13
          refine bcD (fun _ => ?_) fun h => absurd (by omega) h
          refine (hsr.mono hle6.toLeM).get (List.getElem?_eq_getElem hj) fun a2 cs2 hK2 hc2 => ?_
          obtain rfl := hK2
          refine ⟨_, _, hc2, bcI (fun ht => ?_) fun ht => ?_⟩
          · rw [if_pos ht] at etake
            refine Own.append (R := rI) (bytes := 8) (m := 1) (ys := [g.rules[k].right[j].n]) how hle6 (Cells.cons (c := [.int .i64 g.rules[k].right[j].n]) rfl .nil) rfl (.inl (by omega)) fun s' L7 g1 _ g3 _ _ => ?_
            exact nx L7 s' ok g1 (by rw [etake]; exact g3) ⟨fun x => ⟨hall.1 x, fun hf => by rw [ht] at hf; cases hf⟩, fun x => hall.2 x.1⟩
          · rw [if_neg (by rw [ht]; simp)] at etake
            obtain ⟨s0, s1⟩ := hnt _ (List.getElem_mem hj) ht
            have hlt : g.rules[k].right[j].n.toNat < done.length := by omega
            have hlt' : g.rules[k].right[j].n.toNat < words.length := by omega
            have ewd : wdO words g.rules[k].right[j].n = words[g.rules[k].right[j].n.toNat] := by unfold wdO; rw [List.getD_eq_getElem?_getD, List.getElem?_eq_getElem hlt']; rfl
            have c18 : ∀ ok', (ok' = true ↔ allH done (g.rules[k].right.take j) ∧ (g.rules[k].right[j].term = false → done.getD g.rules[k].right[j].n.toNat false = true)) → parlref2_LeastOf.c18 K n sl ⟨some ⟨b1, 0, none⟩, g.nons.toNat, g.nons.toNat⟩ ⟨some ⟨b2, 0, none⟩, g.nons.toNat, g.nons.toNat⟩ again sw ok' sg ((sg.n : Nat) : Int) ((k : Nat) : Int) sr ((sr.n : Nat) : Int) ((j : Nat) : Int) g.terms g.nons g.start sg g.rules[k].left sr g.rules[k].right[j].term g.rules[k].right[j].n L6 := by
              intro ok' hok'
              apply parlref2_LeastOf.go18
              refine h6.isSl.getI s0 (List.getElem?_eq_getElem hlt') fun a3 cs3 hK3 hc3 => ?_
              obtain ⟨s3, rfl, hs3⟩ := hK3
              obtain ⟨c22, hc22, hr22⟩ := hs3.cells
              have hwl2 := hwB g.rules[k].right[j].n
              rw [ewd] at hwl2
              have hn3 := hs3.n
              refine ⟨s3, reads_one hc3, c22, ⟨hr22, hc22.one⟩, ?_⟩
              refine Own.append (R := rI) (bytes := 8) (m := s3.n) (ys := words[g.rules[k].right[j].n.toNat]) how hle6 hc22 hn3.symm (.inl (by omega)) fun s' L7 g1 _ g3 _ _ => ?_
              exact nx L7 s' ok' g1 (by rw [etake, ewd]; exact g3) hok'
            refine bcI (fun hokt => ?_) fun hokf => c18 false ⟨fun h => (by cases h), fun x => by rw [hall.2 x.1] at hokf; cases hokf⟩
            refine h6.p2.getI s0 (List.getElem?_eq_getElem hlt) fun a4 hc4 => ⟨_, hc4, c18 _ ?_⟩
            rw [getB_get hlt]
            exact ⟨fun x => ⟨hall.1 hokt, fun _ => x⟩, fun x => x.2 ht⟩
      refine scan 0 (Nat.zero_le _) L50 ⟨some ⟨b31, 0, none⟩, 0, 0⟩ true le31 (by simpa [wcat] using Own.nil' L5 rI L50 (some ⟨b31, 0, none⟩)) ⟨fun _ s hs => by simp at hs, fun _ => rfl⟩
  exact loop 0 (Nat.zero_le _) ss0 words0 done0 L40 false h0 hok0 (fun h => by cases h) fun _ => ⟨rfl, rfl, fun k' r h => by omega⟩
end

theorem LeastOf_spec {L : GHeap} {g : Gram} {sg : Sl} {lens : List Int} {n : Int} (hv : Valid g) (hl : LenSpec g lens) (hs : IsSl rRule L sg g.rules) (hn : 0 ≤ n ∧ n < g.nons) (hpos : 0 ≤ atI lens n) (hbig : atI lens n ≤ 2000) :
    ACalls PP parlref2_LeastOf.id [gramV g sg, .int .i64 n] L fun v L' => Le L L' ∧ ∃ (so : Sl) (w : List Int), v = .slice so.a so.n so.c ∧ IsSl rI L' so w ∧ LW g n w := by
  have hnn := hv.nons
  apply parlref2_LeastOf.go
  refine (LengthsOf_spec hv hl hs).mono ?_
  rintro v L1 ⟨hle1, sl, rfl, hsl⟩
  have hs1 := hs.mono hle1.toLeM
  refine ⟨sl, rfl, ⟨by omega, by omega, by omega⟩, fun b19 h19 => ?_⟩
  simp only [inL]
  rw [Nat.mul_one]
  refine ⟨⟨by omega, by omega, by omega⟩, fun b22 h22 => ?_⟩
  obtain ⟨q1, o1⟩ := PA.new (f := fSl) (L0 := L1) (z := ⟨none, 0, 0⟩) (v := .slice none 0 0) (n := g.nons.toNat) rfl h19 (LeM.refl L1) (by omega)
  have hl4 := Le.alloc h19 (zeros g.nons.toNat [.slice none 0 0]) g.nons.toNat
  obtain ⟨q2, o2⟩ := PA.new (f := Value.bool) (L0 := L1) (z := false) (v := .bool false) (n := g.nons.toNat) rfl h22 hl4.toLeM (by omega)
  have hne : b19 ≠ b22 := Ne.symm ((q1.live).not h22)
  refine LeastOf_c5 hv hl hs1 hsl hn hpos hbig (fun L' so w h1 h2 h3 => ⟨hle1.trans h1, so, w, rfl, h2, h3⟩) _ (List.replicate g.nons.toNat ⟨none, 0, 0⟩) (List.replicate g.nons.toNat []) (List.replicate g.nons.toNat false) _ rfl ⟨pa_mono q1 (Le.alloc h22 _ _), q2, hne, ?_, by simp, fun i s w e1 e2 => ?_⟩ ⟨by simp, by simp, fun w hw => ?_, fun m hm hd => ?_⟩
  · rw [off_swap, ← off_two, o2, o1]; exact .refl _
  · rw [List.getElem?_replicate] at e1 e2
    split at e1
    · rename_i h
      rw [if_pos h] at e2
      cases e1; cases e2; exact .nil _ _ _ _
    · cases e1
  · rw [List.eq_of_mem_replicate hw]; simp
  · rw [List.getD_eq_getElem?_getD, List.getElem?_replicate] at hd
    split at hd <;> cases hd
end Go.Proofs.YtjmpheidcofhnaaDoor
