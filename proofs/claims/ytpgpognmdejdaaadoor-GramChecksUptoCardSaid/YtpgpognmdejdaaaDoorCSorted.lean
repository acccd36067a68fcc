/- gram.Sorted. -/
import Derived.Test.YtpgpognmdejdaaaDoorVSorted
import Derived.Test.YtpgpognmdejdaaaDoorCSortI
import Derived.Test.YtpgpognmdejdaaaDoorCSortLaw
import Derived.Test.YtpgpognmdejdaaaDoorCChk
import Derived.Test.YtpgpognmdejdaaaDoorCIdx
set_option linter.all false
namespace Go.Proofs.YtpgpognmdejdaaaDoor
open Go Go.Proofs.YtpgpognmdejdaaaDoor.GH Go.Sort Go.Proofs.YtpgpognmdejdaaaDoor.SortI

theorem PA.comap {α β : Type} {f : α → Value} {g : β → α} {L0 L : GHeap} {M : Nat → Prop} {s : Sl} {xs : List β} (h : PA f L0 L M s (xs.map g)) : PA (fun x => f (g x)) L0 L M s xs :=
  ⟨by rw [h.n]; simp, h.c, h.unu, fun h0 => let ⟨b, e1, e2, h3, h4⟩ := h.cell h0; ⟨b, e1, e2, fun i x hx => h3 i (g x) (by rw [List.getElem?_map, hx]; rfl), h4⟩, h.nil⟩
theorem PA.map {α β : Type} {f : α → Value} {g : β → α} {L0 L : GHeap} {M : Nat → Prop} {s : Sl} {xs : List β} (h : PA (fun x => f (g x)) L0 L M s xs) : PA f L0 L M s (xs.map g) :=
  ⟨by rw [h.n]; simp, h.c, h.unu, fun h0 => let ⟨b, e1, e2, h3, h4⟩ := h.cell h0; ⟨b, e1, e2, fun i x hx => by
    rw [List.getElem?_map] at hx
    cases hy : xs[i]? with
    | none => rw [hy] at hx; cases hx
    | some y => rw [hy] at hx; cases hx; exact h3 i y hy, h4⟩, h.nil⟩

theorem finRange_val (n : Nat) : ((List.finRange n).map fun x : Fin n => x.val) = List.range n := List.ext_getElem (by simp) fun i h1 h2 => by simp

def rAt (g : Gram) (n : Nat) : Rule := g.rules.getD n ⟨0, []⟩
theorem rAt_get {g : Gram} {n : Nat} (h : n < g.rules.length) : g.rules[n]? = some (rAt g n) := by unfold rAt; rw [List.getD_eq_getElem?_getD, List.getElem?_eq_getElem h]; rfl

/-- The order of the rules. -/
structure Ordd (g : Gram) (o : List Nat) : Prop where
  perm : o.Perm (List.range g.rules.length)
  inc : o.Pairwise fun x y => cmpR (rAt g x) (rAt g y) < 0

theorem Ordd.lt {g : Gram} {o : List Nat} (h : Ordd g o) {n : Nat} (hn : n ∈ o) : n < g.rules.length := List.mem_range.1 (h.perm.mem_iff.1 hn)
theorem Ordd.len {g : Gram} {o : List Nat} (h : Ordd g o) : o.length = g.rules.length := by rw [h.perm.length_eq, List.length_range]

def sortedG (g : Gram) (o : List Nat) : Gram := ⟨g.terms, g.nons, g.start, o.map (rAt g)⟩

def SortPost (L : GHeap) (g : Gram) (v : Value) (L' : GHeap) : Prop :=
  Le L L' ∧ ((chk g ≠ 0 ∧ v = .tuple #[gramV ⟨0, 0, 0, []⟩ ⟨none, 0, 0⟩, .slice none 0 0, .int .i64 (chk g)]) ∨
    (chk g = 0 ∧ ∃ (o : List Nat) (so sr : Sl), Ordd g o ∧ v = .tuple #[gramV (sortedG g o) sr, .slice so.a so.n so.c, .int .i64 0] ∧ IsSl rRule L' sr (o.map (rAt g)) ∧ IsSl rI L' so (o.map fun n : Nat => (n : Int))))

theorem valid_right {g : Gram} (hv : Valid g) {n : Nat} (h : n < g.rules.length) : (rAt g n).right.length ≤ 4 := by
  have hm := List.mem_of_getElem? (rAt_get h)
  exact (hv.ok _ hm).2

/-- The comparison of the closure. -/
theorem cmp_ro {H : GHeap} {b : Nat} {g : Gram} {sg : Sl} (hv : Valid g) (hm : H.mem ((⟨b, 0, none⟩ : Addr).add 3) = some (.slice sg.a sg.n sg.c)) (hs : IsSl rRule H sg g.rules) {x y : Nat} (hx : x < g.rules.length) (hy : y < g.rules.length) :
    RO PP gram_Sorted_1.id ([.int .i64 ((x : Nat) : Int), .int .i64 ((y : Nat) : Int)] ++ [.pointer (some ⟨b, 0, none⟩)]) H (.int .i64 (cmpR (rAt g x) (rAt g y))) := by
  have hr := valid_right hv hx
  apply gram_Sorted_1.go
  refine ⟨⟨sg, hm, hs.get (rAt_get hx) fun a cs hK hc => ?_⟩, sg, hm, hs.get (rAt_get hy) fun a cs hK hc => ?_⟩
  · obtain ⟨s1, rfl, h1⟩ := hK
    refine ⟨_, s1, hc, sg, hm, hs.get (rAt_get hy) fun a cs hK hc => ?_⟩
    obtain ⟨s2, rfl, h2⟩ := hK
    exact ⟨_, s2, hc, (gCompare_ro h1 h2 (by omega)).use ⟨_, rfl, rfl, rfl⟩⟩
  · obtain ⟨s2, rfl, h2⟩ := hK
    refine ⟨_, s2, hc, sg, hm, hs.get (rAt_get hx) fun a cs hK hc => ?_⟩
    obtain ⟨s1, rfl, h1⟩ := hK
    exact ⟨_, s1, hc, (gCompare_ro h1 h2 (by omega)).use ⟨_, rfl, rfl, rfl⟩⟩

theorem Sorted_spec {L : GHeap} {g : Gram} {s : Sl} (hs : IsSl rRule L s g.rules) : ACalls PP gram_Sorted.id [gramV g s] L (SortPost L g) := by
  have hsn := hs.n
  apply gram_Sorted.go
  intro b1 hu
  simp only [inL]
  have hle1 : Le L (L.alloc b1 [.int .i64 g.terms, .int .i64 g.nons, .int .i64 g.start, .slice s.a s.n s.c] 4) := .alloc hu _ _
  have hrd : (L.alloc b1 [.int .i64 g.terms, .int .i64 g.nons, .int .i64 g.start, .slice s.a s.n s.c] 4).reads ⟨b1, 0, none⟩ 0 [.int .i64 g.terms, .int .i64 g.nons, .int .i64 g.start, .slice s.a s.n s.c] := alloc_reads
  have hs1 := hs.mono hle1.toLeM
  generalize L.alloc b1 [.int .i64 g.terms, .int .i64 g.nons, .int .i64 g.start, .slice s.a s.n s.c] 4 = L1 at *
  have c0 : L1.mem ⟨b1, 0, none⟩ = some (.int .i64 g.terms) := by have := hrd.1; rwa [add_zero] at this
  have c1 : L1.mem ((⟨b1, 0, none⟩ : Addr).add 1) = some (.int .i64 g.nons) := hrd.2.1
  have c2 : L1.mem ((⟨b1, 0, none⟩ : Addr).add 2) = some (.int .i64 g.start) := hrd.2.2.1
  have c3 : L1.mem ((⟨b1, 0, none⟩ : Addr).add 3) = some (.slice s.a s.n s.c) := hrd.2.2.2.1
  refine ⟨_, _, _, s, hrd, (Check_ro hs1).use ⟨_, rfl, bcNE (fun h => ⟨hle1, .inl ⟨h, rfl⟩⟩) fun h => ?_⟩⟩
  have hv := chk_zero.1 h
  have hmany := hv.many
  have c3' : L1.mem ⟨b1, 3, none⟩ = some (.slice s.a s.n s.c) := by rw [spot_add] at c3; exact c3
  refine ⟨s, c3', ?_⟩
  -- what comes behind the sort
  have fin : ∀ (L5 : GHeap) (so : Sl) (o : List Nat), Le L1 L5 → Ordd g o → IsSl rI L5 so (o.map fun n : Nat => (n : Int)) → ∃ x32, L5.mem ⟨b1, 0, none⟩ = some (.int .i64 x32) ∧ ∃ x34, L5.mem ((⟨b1, 0, none⟩ : Addr).add 1) = some (.int .i64 x34) ∧ ∃ x36, L5.mem ((⟨b1, 0, none⟩ : Addr).add 2) = some (.int .i64 x36) ∧ gram_Sorted.c13 (SortPost L g) ⟨b1, 0, none⟩ so so ((so.n : Nat) : Int) 0 0 0 0 ⟨none, 0, 0⟩ x32 x34 x36 ⟨none, 0, 0⟩ L5 := by
    intro L5 so o hle5 ho hso
    have hol := ho.len
    have hson := hso.n
    rw [List.length_map] at hson
    refine ⟨_, hle5.mem _ _ c0, _, hle5.mem _ _ c1, _, hle5.mem _ _ c2, ?_⟩
    have key : ∀ i, i ≤ o.length → ∀ (sr : Sl) (L6 : GHeap), Le L5 L6 → Own L5 rRule L6 sr ((o.take i).map (rAt g)) → gram_Sorted.c13 (SortPost L g) ⟨b1, 0, none⟩ so so ((so.n : Nat) : Int) ((i : Nat) : Int) 0 0 0 ⟨none, 0, 0⟩ g.terms g.nons g.start sr L6 := by
      refine down ?_ ?_
      · intro sr L6 hle6 hr
        rw [List.take_length] at hr
        apply gram_Sorted.go13
        refine bcD (fun h => absurd h (by omega)) fun _ => ?_
        exact ⟨(hle1.trans hle5).trans hle6, .inr ⟨h, o, so, sr, ho, rfl, hr.sl, hso.mono hle6.toLeM⟩⟩
      · intro i hi ih sr L6 hle6 hr
        rw [List.take_succ_eq_append_getElem hi, List.map_append] at ih
        have hoi : (o.map fun n : Nat => (n : Int))[i]? = some ((o[i] : Nat) : Int) := by rw [List.getElem?_map, List.getElem?_eq_getElem hi]; rfl
        have hlt := ho.lt (List.getElem_mem hi)
        generalize o[i] = q at *
        have hle56 := hle5.trans hle6
        have g3 : ∀ L', Le L6 L' → L'.mem ((⟨b1, 0, none⟩ : Addr).add 3) = some (.slice s.a s.n s.c) := fun L' h => (hle56.trans h).mem _ _ c3
        obtain ⟨a0, cs0, ha0, hK0, hc0⟩ := (hs1.mono hle56.toLeM).at_ q _ (rAt_get hlt)
        obtain ⟨sx, rfl, hsx⟩ := hK0
        have hc0 : L6.reads (a0.add (q * 2)) 0 [.int .i64 (rAt g q).left, .slice sx.a sx.n sx.c] := hc0
        have m1 : L6.mem (a0.add (q * 2)) = some (.int .i64 (rAt g q).left) := by have := hc0.1; rwa [add_zero] at this
        have m2 : L6.mem ((a0.add (q * 2)).add 1) = some (.slice sx.a sx.n sx.c) := hc0.2.1
        have hrl := valid_right hv hlt
        apply gram_Sorted.go13
        refine bcD (fun _ => ?_) fun h => absurd (by omega) h
        refine (hso.mono hle6.toLeM).get hoi fun a1 cs1 hK1 hc1 => ?_
        obtain rfl := hK1
        refine ⟨_, reads_one hc1, ?_⟩
        have hin : 0 ≤ ((q : Nat) : Int) ∧ ((q : Nat) : Int) < ((s.n : Nat) : Int) := ⟨by omega, by omega⟩
        have app : ∀ (L7 : GHeap) (sc : Sl), Le L6 L7 → IsSl rSym L7 sc (rAt g q).right → appendK 2 32 L7 sr 1 [.int .i64 (rAt g q).left, .slice sc.a sc.n sc.c] fun x61 L0 => gram_Sorted.c16 (SortPost L g) ⟨b1, 0, none⟩ so so ((so.n : Nat) : Int) ((i : Nat) : Int) 0 0 0 ⟨none, 0, 0⟩ g.terms g.nons g.start x61 L0 := by
          intro L7 sc h7 hsc
          refine Own.append (R := rRule) (bytes := 32) (m := 1) (ys := [rAt g q]) (hr.mono h7) (hle6.trans h7) (Cells.cons (c := [.int .i64 (rAt g q).left, .slice sc.a sc.n sc.c]) ⟨sc, rfl, hsc⟩ .nil) rfl (.inl (by rw [List.length_map, List.length_take]; omega)) fun sr' L8 k1 _ k3 _ _ => ?_
          apply gram_Sorted.go16
          unfold gram_Sorted.t16
          rw [add_one (by omega)]
          exact ih sr' L8 k1 k3
        have k1 : ACalls PP slices_Clone_api_Sym_api_Sym.id [.slice sx.a sx.n sx.c] L6 fun v L' => ∃ x58 : Sl, v = .slice x58.a x58.n x58.c ∧ appendK 2 32 L' sr 1 [.int .i64 (rAt g q).left, .slice x58.a x58.n x58.c] fun x61 L0 => gram_Sorted.c16 (SortPost L g) ⟨b1, 0, none⟩ so so ((so.n : Nat) : Int) ((i : Nat) : Int) 0 0 0 ⟨none, 0, 0⟩ g.terms g.nons g.start x61 L0 := by
          refine (CloneSym_spec hsx (by omega)).mono ?_
          rintro v L7 ⟨sc, rfl, h7, hsc⟩
          exact ⟨sc, rfl, app L7 sc h7 hsc.sl⟩
        have k2 : ACalls PP slices_Clone_api_Sym_api_Sym.id [.slice sx.a sx.n sx.c] L6 fun v L' => ∃ x58 : Sl, v = .slice x58.a x58.n x58.c ∧ ∃ x51, L'.mem (a0.add (q * 2)) = some (.int .i64 x51) ∧ appendK 2 32 L' sr 1 [.int .i64 x51, .slice x58.a x58.n x58.c] fun x61 L0 => gram_Sorted.c16 (SortPost L g) ⟨b1, 0, none⟩ so so ((so.n : Nat) : Int) ((i : Nat) : Int) 0 0 0 ⟨none, 0, 0⟩ g.terms g.nons g.start x61 L0 := by
          refine (CloneSym_spec hsx (by omega)).mono ?_
          rintro v L7 ⟨sc, rfl, h7, hsc⟩
          exact ⟨sc, rfl, _, h7.mem _ _ m1, app L7 sc h7 hsc.sl⟩
        have k3 : ACalls PP slices_Clone_api_Sym_api_Sym.id [.slice sx.a sx.n sx.c] L6 fun v L' => ∃ x58 : Sl, v = .slice x58.a x58.n x58.c ∧ ∃ x47 : Sl, L'.mem ((⟨b1, 0, none⟩ : Addr).add 3) = some (.slice x47.a x47.n x47.c) ∧ ptrK x47.a fun x49 => (0 ≤ ((q : Nat) : Int) ∧ ((q : Nat) : Int) < ((x47.n : Nat) : Int)) ∧ ∃ x51, L'.mem (x49.add (Int.toNat ((q : Nat) : Int) * 2)) = some (.int .i64 x51) ∧ appendK 2 32 L' sr 1 [.int .i64 x51, .slice x58.a x58.n x58.c] fun x61 L0 => gram_Sorted.c16 (SortPost L g) ⟨b1, 0, none⟩ so so ((so.n : Nat) : Int) ((i : Nat) : Int) 0 0 0 ⟨none, 0, 0⟩ g.terms g.nons g.start x61 L0 := by
          refine (CloneSym_spec hsx (by omega)).mono ?_
          rintro v L7 ⟨sc, rfl, h7, hsc⟩
          refine ⟨sc, rfl, s, g3 L7 h7, ?_⟩
          rw [ha0]
          exact ⟨hin, _, h7.mem _ _ m1, app L7 sc h7 hsc.sl⟩
        have g3' := g3 L6 (.refl _)
        have pt : ∀ {k : Addr → Prop}, k a0 → ptrK s.a k := fun h => by rw [ha0]; exact h
        exact ⟨⟨s, g3', pt ⟨hin, ⟨_, m1, s, g3', pt ⟨hin, sx, m2, k1⟩⟩, s, g3', pt ⟨hin, ⟨_, m1, sx, m2, k1⟩, sx, m2, ⟨_, m1, k1⟩, k2⟩⟩⟩,
          s, g3', pt ⟨hin, ⟨s, g3', pt ⟨hin, ⟨_, m1, sx, m2, k1⟩, sx, m2, ⟨_, m1, k1⟩, k2⟩⟩, sx, m2, ⟨s, g3', pt ⟨hin, ⟨_, m1, k1⟩, k2⟩⟩, k3⟩⟩
    exact key 0 (Nat.zero_le _) ⟨none, 0, 0⟩ L5 (.refl _) (.nil _ _ _)
  -- the numbers
  have key : ∀ i, i ≤ g.rules.length → ∀ (so : Sl) (L2 : GHeap) (M : Nat → Prop), PA (Value.int .i64) L1 L2 M so ((List.range i).map fun n : Nat => (n : Int)) → Le L1 (L2.off M) → gram_Sorted.c6 (SortPost L g) ⟨b1, 0, none⟩ so ((s.n : Nat) : Int) ((i : Nat) : Int) 0 0 0 ⟨none, 0, 0⟩ L2 := by
    refine down ?_ ?_
    · intro so L2 M hp hle2
      have hson := hp.n
      rw [List.length_map, List.length_range] at hson
      apply gram_Sorted.go6
      refine bcD (fun h => absurd h (by omega)) fun _ => ?_
      rcases Nat.eq_zero_or_pos g.rules.length with h0 | h0
      · refine (SortFunc_nil (by omega) L2).use ⟨rfl, ?_⟩
        have ho : Ordd g [] := ⟨by rw [h0]; exact .refl _, .nil⟩
        refine fin L2 so [] (hp.le hle2) ho ?_
        have := hp.isInt
        rw [h0] at this
        exact this
      · haveI : Inhabited (Fin g.rules.length) := ⟨⟨0, h0⟩⟩
        have hfr : ((List.finRange g.rules.length).map fun x : Fin g.rules.length => ((x.val : Nat) : Int)) = (List.range g.rules.length).map fun n : Nat => (n : Int) := by
          rw [← finRange_val, List.map_map]; rfl
        rw [← hfr] at hp
        have hp' := PA.comap hp
        have hsi : SI (fun x : Fin g.rules.length => ((x.val : Nat) : Int)) L1 (L2.off M) M so L2 (List.finRange g.rules.length).toArray := ⟨hp', rfl⟩
        have hc : ∀ x y : Fin g.rules.length, RO PP gram_Sorted_1.id ([.int .i64 ((x.val : Nat) : Int), .int .i64 ((y.val : Nat) : Int)] ++ [.pointer (some ⟨b1, 0, none⟩)]) (L2.off M) (.int .i64 (cmpR (rAt g x.val) (rAt g y.val))) :=
          fun x y => cmp_ro hv (hle2.mem _ _ c3) (hs1.mono hle2.toLeM) x.isLt y.isLt
        have hO : SWO (ltC fun x y : Fin g.rules.length => cmpR (rAt g x.val) (rAt g y.val)) := to_cmpR.swo fun x : Fin g.rules.length => rAt g x.val
        refine (SortFunc_spec hc hO hsi (by simp; omega)).mono ?_
        rintro v L3 ⟨rfl, d', h3, p3, s3⟩
        refine ⟨rfl, ?_⟩
        have hperm := permIn_whole p3
        have hpw : SortedIn (ltC fun x y : Fin g.rules.length => cmpR (rAt g x.val) (rAt g y.val)) 0 d'.size d' := by rw [p3.1]; exact s3
        have hpw := sortedIn_pairwise hpw
        have hnd : d'.toList.Nodup := hperm.nodup_iff.2 (by simpa using List.nodup_finRange _)
        refine fin L3 so (d'.toList.map fun x => x.val) (h3.pa.le (by rw [h3.off]; exact hle2)) ⟨?_, ?_⟩ ?_
        · have := hperm.map fun x : Fin g.rules.length => x.val
          rw [show (List.finRange g.rules.length).toArray.toList = List.finRange g.rules.length from rfl, finRange_val] at this
          exact this
        · rw [List.pairwise_map]
          refine (hpw.and hnd).imp fun {x y} h => ?_
          have h1 : ¬ cmpR (rAt g y.val) (rAt g x.val) < 0 := of_decide_eq_false h.1
          have h2 : cmpR (rAt g x.val) (rAt g y.val) ≠ 0 := fun e => by
            have e := cmpR_zero.1 e
            have n1 := hv.nodup
            have : x.val = y.val := (List.getElem?_inj x.isLt n1).1 (by rw [rAt_get x.isLt, rAt_get y.isLt, e])
            exact h.2 (Fin.ext this)
          have h3 := to_cmpR.anti (rAt g x.val) (rAt g y.val)
          have h4 := to_cmpR.anti (rAt g y.val) (rAt g x.val)
          omega
        · have := (PA.map (f := Value.int .i64) (g := fun x : Fin g.rules.length => ((x.val : Nat) : Int)) h3.pa).isInt
          rw [List.map_map]
          exact this
    · intro i hi ih so L2 M hp hle2
      apply gram_Sorted.go6
      refine bcD (fun _ => ?_) fun h => absurd (by omega) h
      refine hp.append hle2 (x := ((i : Nat) : Int)) rfl (by rw [List.length_map, List.length_range]; omega) fun so' L3 M' hp' hl' => ?_
      rw [add_one (by omega)]
      refine ih so' L3 M' ?_ (hle2.trans hl')
      rw [List.range_succ, List.map_append]; exact hp'
  refine key 0 (Nat.zero_le _) ⟨none, 0, 0⟩ L1 _ (PA.empty L1 L1 none) ?_
  rw [off_empty]; exact .refl _
end Go.Proofs.YtpgpognmdejdaaaDoor
