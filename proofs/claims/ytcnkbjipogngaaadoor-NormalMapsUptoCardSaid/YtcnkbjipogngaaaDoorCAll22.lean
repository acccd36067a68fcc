/- Contracts of the program's functions. -/
import Derived.Test.YtcnkbjipogngaaaDoorVAll3
import Derived.Test.YtcnkbjipogngaaaDoorCAll21
set_option linter.all false
namespace Go.Proofs.YtcnkbjipogngaaaDoor.NormT
open Go Go.Proofs.YtcnkbjipogngaaaDoor.GH

variable {g : Gram} {b : Nat} {sg sr srl sn : Sl} {nl : List Bool} {R E : Nat}

theorem WayF.pos {x : Tree} {m : Int} {w : List (Nat × Nat)} (h : WayF g x m w) : 0 < w.length := by cases h <;> simp

theorem wayF_at {x : Tree} {m : Int} {w : List (Nat × Nat)} (h : WayF g x m w) : ∀ j (hj : j < w.length), ∃ y, PB g w[j].1 w[j].2 y ∧ (j = 0 → y.1 = m) ∧ (j + 1 = w.length → fitsB g y x) ∧ ∀ (h : j + 1 < w.length) y', PB g w[j + 1].1 w[j + 1].2 y' → leads g y y'.1 := by
  induction h with
  | @last i k y hp hf =>
    intro j hj
    have : j = 0 := by simp at hj; omega
    subst this
    exact ⟨y, hp, fun _ => rfl, fun _ => hf, fun h => by simp at h⟩
  | @step i k y n w hp hl hw ih =>
    intro j hj
    cases j with
    | zero =>
      refine ⟨y, hp, fun _ => rfl, fun e => ?_, fun h y' hp' => ?_⟩
      · have := hw.pos; rw [List.length_cons] at e; omega
      · obtain ⟨y0, h1, h2, _⟩ := ih 0 hw.pos
        have : y' = y0 := pb_eq hp' h1
        rw [this, h2 rfl]
        exact hl
    | succ j =>
      obtain ⟨y0, h1, _, h3, h4⟩ := ih j (by simpa using hj)
      exact ⟨y0, h1, fun e => by omega, fun e => h3 (by simpa using e), fun h y' hp' => h4 (by simpa using h) y' hp'⟩

theorem pb_left (hv : Valid g) {i k : Nat} {y : Bs} (h : PB g i k y) : 0 ≤ y.1 ∧ y.1 < nT g := by
  have hTn : g.nons ≤ nT g := by unfold nT; omega
  obtain ⟨hi, ⟨_, _, e⟩ | ⟨_, _, e⟩ | ⟨hk, e⟩⟩ := pb_cases h
  · have := (hv.ok _ (List.getElem_mem hi)).1.left; rw [e]; simp only; omega
  · have := (hv.ok _ (List.getElem_mem hi)).1.left; rw [e]; simp only; omega
  · rw [e]
    simp only
    split
    · have := (hv.ok _ (List.getElem_mem hi)).1.left; omega
    · have := rsN_lt hi (k := k) ⟨by omega, hk⟩
      have := hv.nons
      omega

theorem pb_ok (hv : Valid g) {i k : Nat} {y : Bs} (h : PB g i k y) : y.2.length ≤ 2 ∧ ∀ m ∈ y.2, 0 ≤ m ∧ m < nN g := by
  have hN := nN_le hv
  obtain ⟨l, h1, h2⟩ := h
  obtain ⟨_, a, c⟩ := (rulesG_ok hv l (List.mem_of_getElem? h1)).2 y (List.mem_of_getElem? h2)
  exact ⟨a, fun m hm => by have := c m hm; omega⟩

theorem ch_range (hv : Valid g) {x : Tree} {m : Int} {n : Nat} (h : Ch g x m n) : 0 ≤ m ∧ m < nT g := by
  cases h with
  | last hp _ => exact pb_left hv hp
  | step hp _ _ => exact pb_left hv hp

theorem up_loop (hv : Valid g) (hR : ∀ r ∈ g.rules, r.right.length ≤ R) (h2 : 2 ≤ R) (h4 : R ≤ 4) (hE : ∀ (b : Bs) (n : Int) (l l' : List Tree), ArOk g (EB g R) b n l l' → ArOk g E b n l l') {L0 : GHeap} (hq : PQ L0 b g sg sr srl sn nl) {x : Tree} {w : List (Nat × Nat)} {sw : Sl} (hw : WayF g x x.rule w) (hsw : IsSl rPl L0 sw w) (hwl : w.length ≤ 100) {K : Value → GHeap → Prop} {Bd : Nat}
    (hK : ∀ (L' : GHeap) (so : Sl) (ts : List Tree), Le L0 L' → IsSl rTree L' so ts → Dv g x.rule ts (some (setN x.rule x)) → nodesL ts ≤ Bd + (E + 1) * w.length → K (.tuple #[.slice so.a so.n so.c, .bool true]) L') :
    ∀ j (hj : j < w.length) (L1 : GHeap) (sl : Sl) (ts : List Tree) (y : Bs), Le L0 L1 → PB g w[j].1 w[j].2 y → IsSl rTree L1 sl ts → Dv g y.1 ts (some (setN y.1 x)) → nodesL ts ≤ Bd + (E + 1) * (w.length - j) →
      normal_parts_up.c27 K (some ⟨b, 0, none⟩) sw sl ((j : Int) - 1) L1 := by
  intro j
  induction j with
  | zero =>
    intro hj L1 sl ts y hle hp hsl hd hn
    obtain ⟨y0, h1, h2, _⟩ := wayF_at hw 0 hj
    have : y = y0 := pb_eq hp h1
    subst this
    rw [h2 rfl] at hd
    apply normal_parts_up.go27
    exact bcD (fun h => absurd h (by decide)) fun _ => hK L1 sl ts hle hsl hd hn
  | succ j ih =>
    intro hj L1 sl ts y hle hp hsl hd hn
    obtain ⟨y0, h1, _, _, h5⟩ := wayF_at hw j (by omega)
    have hld := h5 hj y hp
    have hq1 := hq.up hle.toLeM
    have hsw1 := hsw.mono hle.toLeM
    have e1 : (((j + 1 : Nat) : Int) - 1) = (j : Int) := by omega
    rw [e1]
    apply normal_parts_up.go27
    refine bcD (fun _ => ?_) fun h => absurd (by omega) h
    obtain ⟨l, hl1, hl2⟩ := h1
    obtain ⟨l', hl1', hl2'⟩ := hp
    have hwj := List.getElem?_eq_getElem (l := w) (i := j) (by omega)
    have hwj' := List.getElem?_eq_getElem (l := w) (i := j + 1) hj
    have hpb : PB g w[j].1 w[j].2 y0 := ⟨l, hl1, hl2⟩
    have hok := pb_ok hv hpb
    generalize hp1 : w[j]'(by omega) = pj at *
    generalize hp2 : w[j + 1]'hj = pj' at *
    have ew : w64 ((j : Int) + 1) = ((j + 1 : Nat) : Int) := by rw [w64_in (by omega) (by omega)]; omega
    refine ⟨srl, hq1.mem 7 _ rfl, hsw1.get hwj fun a1 cs1 hK1 hc1 => ?_⟩
    obtain rfl := hK1
    have r1 := hc1.1
    rw [add_zero] at r1
    refine ⟨_, r1, hq1.rules.get hl1 fun a2 cs2 hK2 hc2 => ?_⟩
    obtain ⟨s2, rfl, hs2⟩ := hK2
    have r2 := hc2.1
    rw [add_zero] at r2
    refine ⟨s2, r2, hsw1.get hwj fun a3 cs3 hK3 hc3 => ?_⟩
    obtain rfl := hK3
    refine ⟨_, hc3.2.1, hs2.get hl2 fun a4 cs4 hK4 hc4 => ?_⟩
    obtain ⟨sy, rfl, hsy⟩ := hK4
    refine ⟨_, sy, hc4, srl, hq1.mem 7 _ rfl, ?_⟩
    rw [ew]
    refine hsw1.get hwj' fun a5 cs5 hK5 hc5 => ?_
    obtain rfl := hK5
    have r5 := hc5.1
    rw [add_zero] at r5
    refine ⟨_, r5, hq1.rules.get hl1' fun a6 cs6 hK6 hc6 => ?_⟩
    obtain ⟨s6, rfl, hs6⟩ := hK6
    have r6 := hc6.1
    rw [add_zero] at r6
    refine ⟨s6, r6, hsw1.get hwj' fun a7 cs7 hK7 hc7 => ?_⟩
    obtain rfl := hK7
    refine ⟨_, hc7.2.1, hs6.get hl2' fun a8 cs8 hK8 hc8 => ?_⟩
    obtain ⟨s8, rfl, _⟩ := hK8
    have r8 := hc8.1
    rw [add_zero] at r8
    refine ⟨_, r8, hsw1.get hwj fun a9 cs9 hK9 hc9 => ?_⟩
    obtain rfl := hK9
    have hlen := dv_len hv hR h2 hd
    have fin : ∀ (L2 : GHeap) (so : Sl) (l' : List Tree), Le L1 L2 → IsSl rTree L2 so l' → ArOk g (E) y0 y.1 ts l' → ACalls PP normal_parts_close.id [.pointer (some ⟨b, 0, none⟩), .agg #[.int .i64 (pj.1 : Int), .int .i64 (pj.2 : Int)], .slice so.a so.n so.c] L2 fun v LL => ∃ x240 : Sl, v = .slice x240.a x240.n x240.c ∧ normal_parts_up.c28 K (some ⟨b, 0, none⟩) sw x240 (j : Int) LL := by
      intro L2 so l' hle2 hso ha
      refine (close_spec hso).mono ?_
      rintro v L3 ⟨hle3, s3, rfl, hs3⟩
      refine ⟨s3, rfl, ?_⟩
      apply normal_parts_up.go28
      unfold normal_parts_up.t28
      rw [w64_in (by omega) (by omega)]
      have hn1 := ha.size
      have hn2 := (clo_nodes (i := pj.1) (k := pj.2) (ts := l')).2.1
      have hm : (E + 1) * (w.length - j) = (E + 1) * (w.length - (j + 1)) + (E + 1) := by
        rw [show w.length - j = (w.length - (j + 1)) + 1 by omega, Nat.mul_succ]
      have hdv := dv_around hpb ha hd
      refine ih (by omega) L3 s3 _ y0 ((hle.trans hle2).trans hle3) (by rw [hp1]; exact hpb) hs3 ?_ (by rw [hm]; omega)
      exact hdv
    have arnd := (around_spec hv hR h2 h4 hq1 (y := y0) (sy := sy) hsy hok.1 hok.2 hld hsl (by omega)).mono fun v L' (h : Le L1 L' ∧ ∃ (so : Sl) (l' : List Tree), v = .slice so.a so.n so.c ∧ IsSl rTree L' so l' ∧ ArOk g (EB g R) y0 y.1 ts l') => (⟨h.1, let ⟨so, l', a, b, c⟩ := h.2; ⟨so, l', a, b, hE _ _ _ _ c⟩⟩ : Le L1 L' ∧ ∃ (so : Sl) (l' : List Tree), v = .slice so.a so.n so.c ∧ IsSl rTree L' so l' ∧ ArOk g E y0 y.1 ts l')
    refine ⟨⟨_, _, hc9, arnd.mono ?_⟩, arnd.mono ?_⟩
    · rintro v L2 ⟨hle2, so, l', rfl, hso, ha⟩
      exact ⟨so, rfl, fin L2 so l' hle2 hso ha⟩
    · rintro v L2 ⟨hle2, so, l', rfl, hso, ha⟩
      exact ⟨so, rfl, _, _, hle2.toLeM.reads hc9, fin L2 so l' hle2 hso ha⟩

def UpPost (g : Gram) (E : Nat) (x : Tree) (c : Nat) (L : GHeap) (v : Value) (L' : GHeap) : Prop :=
  Le L L' ∧ ∃ (so : Sl) (ts : List Tree), v = .tuple #[.slice so.a so.n so.c, .bool true] ∧ IsSl rTree L' so ts ∧ Dv g x.rule ts (some x) ∧ nodesL ts ≤ (E + 1) * c + (endsN x).length

theorem up_c25 (hv : Valid g) (hR : ∀ r ∈ g.rules, r.right.length ≤ R) (h2 : 2 ≤ R) (h4 : R ≤ 4) (hE : ∀ (b : Bs) (n : Int) (l l' : List Tree), ArOk g (EB g R) b n l l' → ArOk g E b n l l') {L0 : GHeap} (hq : PQ L0 b g sg sr srl sn nl) {x : Tree} {w : List (Nat × Nat)} {sw : Sl} (hw : WayF g x x.rule w) (hsw : IsSl rPl L0 sw w) (hwl : w.length ≤ 100) {K : Value → GHeap → Prop} {Bd : Nat}
    (hK : ∀ (L' : GHeap) (so : Sl) (ts : List Tree), Le L0 L' → IsSl rTree L' so ts → Dv g x.rule ts (some (setN x.rule x)) → nodesL ts ≤ Bd + (E + 1) * w.length → K (.tuple #[.slice so.a so.n so.c, .bool true]) L')
    {L1 : GHeap} {sl : Sl} {l : List Tree} {y : Bs} (hle : Le L0 L1) (hp : PB g (w[w.length - 1]'(by have := hw.pos; omega)).1 (w[w.length - 1]'(by have := hw.pos; omega)).2 y) (hsl : IsSl rTree L1 sl l)
    (hd : Dv g y.1 (clo (w[w.length - 1]'(by have := hw.pos; omega)).1 (w[w.length - 1]'(by have := hw.pos; omega)).2 l) (some (setN y.1 x))) (hn : nodesL l ≤ Bd + E) :
    normal_parts_up.c25 K (some ⟨b, 0, none⟩) sw sl L1 := by
  have hpos := hw.pos
  have hsw1 := hsw.mono hle.toLeM
  have ew : w64 (((sw.n : Nat) : Int) - 1) = ((w.length - 1 : Nat) : Int) := by rw [hsw.n, w64_in (by omega) (by omega)]; omega
  have hwj := List.getElem?_eq_getElem (l := w) (i := w.length - 1) (by omega)
  apply normal_parts_up.go25
  unfold normal_parts_up.t25
  rw [ew]
  refine hsw1.get hwj fun a1 cs1 hK1 hc1 => ?_
  obtain rfl := hK1
  refine ⟨_, _, hc1, (close_spec hsl).mono ?_⟩
  rintro v L2 ⟨hle2, so, rfl, hso⟩
  refine ⟨so, rfl, ?_⟩
  apply normal_parts_up.go26
  unfold normal_parts_up.t26
  have ew2 : w64 (((sw.n : Nat) : Int) - 2) = ((w.length - 1 : Nat) : Int) - 1 := by rw [hsw.n, w64_in (by omega) (by omega)]; omega
  rw [ew2]
  have hn2 := (clo_nodes (i := (w[w.length - 1]'(by omega)).1) (k := (w[w.length - 1]'(by omega)).2) (ts := l)).2.1
  refine up_loop hv hR h2 h4 hE hq hw hsw hwl hK (w.length - 1) (by omega) L2 so _ y (hle.trans hle2) hp hso hd ?_
  rw [show w.length - (w.length - 1) = 1 by omega]
  omega
end Go.Proofs.YtcnkbjipogngaaaDoor.NormT

namespace Go.Proofs.YtcnkbjipogngaaaDoor.NormT
open Go Go.Proofs.YtcnkbjipogngaaaDoor.GH

variable {g : Gram} {b : Nat} {sg sr srl sn : Sl} {nl : List Bool} {R E : Nat}

theorem co_range (hv : Valid g) {x : Tree} {c : Nat} (h : Co g x c) : 0 ≤ x.rule ∧ x.rule < nN g := by
  have hN := nN_le hv
  have e : nN g = nT g + g.terms := rfl
  have ht := hv.terms
  cases h with
  | term a h0 h1 => simp only [Tree.rule]; omega
  | leaf _ _ hc => have := ch_range hv hc; simp only [Tree.rule]; omega
  | node hc _ _ => have := ch_range hv hc; simp only [Tree.rule]; omega

theorem up_c12 (hv : Valid g) {L : GHeap} (hq : PQ L b g sg sr srl sn nl) {x : Tree} {w : List (Nat × Nat)} {sw : Sl} (hw : WayF g x x.rule w) (hsw : IsSl rPl L sw w) (hwl : w.length ≤ 100) {K : Value → GHeap → Prop} {sx : Sl}
    (hK : ∀ (y : Bs) (sy : Sl), PB g (w[w.length - 1]'(by have := hw.pos; omega)).1 (w[w.length - 1]'(by have := hw.pos; omega)).2 y → fitsB g y x → IsSl rI L sy y.2 → normal_parts_up.c14 K (some ⟨b, 0, none⟩) sw ⟨none, 0, 0⟩ x.rule x.term sx y.1 sy L) :
    normal_parts_up.c12 K (some ⟨b, 0, none⟩) sw x.rule x.term sx L := by
  have hpos := hw.pos
  obtain ⟨y, hp, _, hf, _⟩ := wayF_at hw (w.length - 1) (by omega)
  have ew : w64 (((sw.n : Nat) : Int) - 1) = ((w.length - 1 : Nat) : Int) := by rw [hsw.n, w64_in (by omega) (by omega)]; omega
  have hwj := List.getElem?_eq_getElem (l := w) (i := w.length - 1) (by omega)
  have hK' := fun sy => hK y sy hp (hf (by omega))
  clear hK
  obtain ⟨l, hl1, hl2⟩ := hp
  generalize w[w.length - 1]'(by omega) = p at *
  apply normal_parts_up.go12
  unfold normal_parts_up.t12
  rw [ew]
  refine ⟨srl, hq.mem 7 _ rfl, hsw.get hwj fun a1 cs1 hK1 hc1 => ?_⟩
  obtain rfl := hK1
  have r1 := hc1.1
  rw [add_zero] at r1
  refine ⟨_, r1, hq.rules.get hl1 fun a2 cs2 hK2 hc2 => ?_⟩
  obtain ⟨s2, rfl, hs2⟩ := hK2
  have r2 := hc2.1
  rw [add_zero] at r2
  refine ⟨s2, r2, hsw.get hwj fun a3 cs3 hK3 hc3 => ?_⟩
  obtain rfl := hK3
  refine ⟨_, hc3.2.1, hs2.get hl2 fun a4 cs4 hK4 hc4 => ?_⟩
  obtain ⟨sy, rfl, hsy⟩ := hK4
  refine ⟨_, sy, hc4, ?_⟩
  apply normal_parts_up.go13
  exact hK' sy hsy

theorem up_spec (hv : Valid g) (hR : ∀ r ∈ g.rules, r.right.length ≤ R) (h2 : 2 ≤ R) (h4 : R ≤ 4) (hE : ∀ (b : Bs) (n : Int) (l l' : List Tree), ArOk g (EB g R) b n l l' → ArOk g E b n l l') {x : Tree} {c : Nat} (hc : Co g x c) : ∀ {L : GHeap} {sx : Sl}, PQ L b g sg sr srl sn nl → IsSl rTree L sx x.kids →
    ACalls PP normal_parts_up.id [.pointer (some ⟨b, 0, none⟩), treeV x sx] L (UpPost g E x c L) := by
  have hN := nN_le hv
  have ht := hv.terms
  have eN : nN g = nT g + g.terms := rfl
  induction hc with
  | term a h0 h1 =>
    intro L sx hq hx
    have hx0 : sx.n = 0 := hx.n
    apply normal_parts_up.go
    refine ⟨_, hq.mem 6 _ rfl, bcD (fun h => absurd h (show ¬ nT g + a ≥ nN g by omega)) fun _ => ?_⟩
    have c3 : normal_parts_up.c3 (UpPost g E (.mk (nT g + a) a []) 0 L) (some ⟨b, 0, none⟩) (nT g + a) a sx L := by
      apply normal_parts_up.go3
      refine bcE (fun h => absurd h (by rw [hx0]; decide)) fun _ => ?_
      apply normal_parts_up.go5
      refine ⟨_, hq.mem 5 _ rfl, bcD (fun _ => ?_) fun h => absurd h (show ¬ ¬ nT g + a ≥ nT g by omega)⟩
      apply normal_parts_up.go6
      refine bcD (fun h => absurd h (by rw [hx0]; decide)) fun _ => ⟨_, hq.mem 5 _ rfl, ?_⟩
      refine bcNE (fun h => absurd (show nT g + a = w64 (nT g + a) from (w64_in (by omega) (by omega)).symm) h) fun _ => ?_
      apply normal_parts_up.go8
      intro c hc
      have l := Le.alloc hc [.int .i64 (-1), .int .i64 a, .slice none 0 0] 3
      simp only [inL]
      refine ⟨l, ⟨some ⟨c, 0, none⟩, 1, 1⟩, [.mk (-1) a []], rfl, ?_, .term a h0 h1, by simp [nodesL, Tree.nodes, endsN]⟩
      exact IsSl.of_cells (R := rTree) (cs := [.int .i64 (-1), .int .i64 a, .slice none 0 0]) (Cells.cons (c := [.int .i64 (-1), .int .i64 a, .slice none 0 0]) (TK.mk (s := ⟨none, 0, 0⟩) (.nil _ _ _ _)) .nil) rfl (Nat.le_refl _) alloc_reads
    refine bcNE (fun h => absurd (show ((sx.n : Nat) : Int) = 0 by rw [hx0]; rfl) h) fun _ => bcE (fun _ => bcD (fun h => absurd h (show ¬ a < 0 by omega)) fun _ => ⟨_, hq.mem 0 _ rfl, bcD (fun h => absurd h (show ¬ a ≥ g.terms by omega)) fun _ => c3⟩) fun _ => c3
  | @leaf m a n h0 h1 hch =>
    intro L sx hq hx
    have hx0 : sx.n = 0 := hx.n
    have hm := ch_range hv hch
    apply normal_parts_up.go
    refine ⟨_, hq.mem 6 _ rfl, bcD (fun h => absurd h (show ¬ m ≥ nN g by omega)) fun _ => ?_⟩
    have c3 : normal_parts_up.c3 (UpPost g E (.mk m a []) n L) (some ⟨b, 0, none⟩) m a sx L := by
      apply normal_parts_up.go3
      refine bcE (fun h => absurd h (by rw [hx0]; decide)) fun _ => ?_
      apply normal_parts_up.go5
      refine ⟨_, hq.mem 5 _ rfl, bcD (fun h => absurd h (show ¬ m ≥ nT g by omega)) fun _ => ?_⟩
      apply normal_parts_up.go9
      refine (way_spec hv hq (x := .mk m a []) hx (.inr ⟨rfl, h0, h1⟩) ⟨hm.1, show m < nN g by omega⟩ hch).mono ?_
      rintro v L1 ⟨hle1, sw, w, rfl, hsw, hw, hwn, hwl⟩
      have hq1 := hq.up hle1.toLeM
      refine ⟨sw, true, rfl, ?_⟩
      apply normal_parts_up.go10
      refine bcF rfl (up_c12 hv hq1 hw hsw hwl fun y sy hp hf hsy => ?_)
      apply normal_parts_up.go14
      refine bcE (fun h => absurd h (by rw [hx0]; decide)) fun _ => ?_
      apply normal_parts_up.go23
      intro c hc
      have l := Le.alloc hc [.int .i64 (-1), .int .i64 a, .slice none 0 0] 3
      show normal_parts_up.c24 (UpPost g E (.mk m a []) n L) (some ⟨b, 0, none⟩) sw ⟨some ⟨c, 0, none⟩, 1, 1⟩ m a sx y.1 sy (L1.alloc c [.int .i64 (-1), .int .i64 a, .slice none 0 0] 3)
      have hl : IsSl rTree (L1.alloc c [.int .i64 (-1), .int .i64 a, .slice none 0 0] 3) ⟨some ⟨c, 0, none⟩, 1, 1⟩ [.mk (-1) a []] :=
        IsSl.of_cells (R := rTree) (cs := [.int .i64 (-1), .int .i64 a, .slice none 0 0]) (Cells.cons (c := [.int .i64 (-1), .int .i64 a, .slice none 0 0]) (TK.mk (s := ⟨none, 0, 0⟩) (.nil _ _ _ _)) .nil) rfl (Nat.le_refl _) alloc_reads
      generalize L1.alloc c [.int .i64 (-1), .int .i64 a, .slice none 0 0] 3 = L2 at *
      have hq2 := hq1.up l.toLeM
      apply normal_parts_up.go24
      refine ⟨_, hq2.mem 5 _ rfl, ?_⟩
      have ea : w64 (nT g + a) = nT g + a := w64_in (by omega) (by omega)
      have hlead : leads g y (nT g + a) := by
        rcases hf with ⟨_, _, h, _⟩ | ⟨_, h⟩
        · cases h
        · exact h
      have hok := pb_ok hv hp
      have harn := around_spec hv hR h2 h4 hq2 (hsy.mono l.toLeM) hok.1 hok.2 hlead hl (by simp)
      rw [← ea] at harn
      refine harn.mono ?_
      rintro v L3 ⟨hle3, so, l', rfl, hso, ha⟩
      rw [ea] at ha
      replace ha := hE _ _ _ _ ha
      refine ⟨so, rfl, ?_⟩
      refine up_c25 hv hR h2 h4 hE hq1 (x := .mk m a []) (Bd := 1) hw hsw hwl ?_ (l.trans hle3) hp hso ?_ ?_
      · intro L' so ts g1 g2 g3 g4
        refine ⟨hle1.trans g1, so, ts, rfl, g2, g3, ?_⟩
        have := Nat.mul_le_mul_left (E + 1) hwn
        simp only [endsN]
        simp
        omega
      · have h := dv_around (x := .mk (nT g + a) a []) hp ha (.term a h0 h1)
        exact h
      · have := ha.size
        simp [nodesL, Tree.nodes] at this
        omega
    refine bcNE (fun h => absurd (show ((sx.n : Nat) : Int) = 0 by rw [hx0]; rfl) h) fun _ => bcE (fun _ => bcD (fun h => absurd h (show ¬ a < 0 by omega)) fun _ => ⟨_, hq.mem 0 _ rfl, bcD (fun h => absurd h (show ¬ a ≥ g.terms by omega)) fun _ => c3⟩) fun _ => c3
  | @node m l r n c1 c2 hch hcl hcr ihl ihr =>
    intro L sx hq hx
    have hx : IsSl rTree L sx [l, r] := hx
    have hx2 : sx.n = 2 := hx.n
    have hm := ch_range hv hch
    have hrl := co_range hv hcl
    have hrr := co_range hv hcr
    apply normal_parts_up.go
    refine ⟨_, hq.mem 6 _ rfl, bcD (fun h => absurd h (show ¬ m ≥ nN g by omega)) fun _ => ?_⟩
    have c3 : normal_parts_up.c3 (UpPost g E (.mk m 0 [l, r]) (n + c1 + c2) L) (some ⟨b, 0, none⟩) m 0 sx L := by
      have c5 : normal_parts_up.c5 (UpPost g E (.mk m 0 [l, r]) (n + c1 + c2) L) (some ⟨b, 0, none⟩) m 0 sx L := by
        apply normal_parts_up.go5
        refine ⟨_, hq.mem 5 _ rfl, bcD (fun h => absurd h (show ¬ m ≥ nT g by omega)) fun _ => ?_⟩
        apply normal_parts_up.go9
        refine (way_spec hv hq (x := .mk m 0 [l, r]) hx (.inl rfl) ⟨hm.1, show m < nN g by omega⟩ hch).mono ?_
        rintro v L1 ⟨hle1, sw, w, rfl, hsw, hw, hwn, hwl⟩
        have hq1 := hq.up hle1.toLeM
        have hx1 := hx.mono hle1.toLeM
        refine ⟨sw, true, rfl, ?_⟩
        apply normal_parts_up.go10
        refine bcF rfl (up_c12 hv hq1 hw hsw hwl fun y sy hp hf hsy => ?_)
        apply normal_parts_up.go14
        refine bcE (fun _ => ?_) fun h => absurd (by rw [hx2]; rfl) h
        apply normal_parts_up.go15
        apply normal_parts_up.go16
        refine bcD (fun _ => ?_) fun h => absurd (show (0 : Int) < ((sx.n : Nat) : Int) by rw [hx2]; decide) h
        refine hx1.get (i := 0) (x := l) rfl fun a1 cs1 hK1 hc1 => ?_
        obtain ⟨s1, rfl, hs1⟩ := TK.open hK1
        refine ⟨_, _, s1, hc1, (ihl hq1 hs1).mono ?_⟩
        rintro v L2 ⟨hle2, so1, ts1, rfl, hso1, hd1, hn1⟩
        have hl1 := dv_len hv hR h2 hd1
        refine ⟨so1, true, rfl, bcF rfl ?_⟩
        obtain ⟨cc1, hcc1, hrc1⟩ := hso1.cells
        refine ⟨cc1, ⟨hrc1, hcc1.one⟩, ?_⟩
        refine Own.append (R := rTree) (bytes := 40) (m := so1.n) (ys := ts1) (Own.nil L1 rTree L2) hle2 hcc1 hso1.n.symm (.inl (by rw [hso1.n]; simp; omega)) fun s3 L3 g1 g2 g3 _ _ => ?_
        have e1 : w64 ((0 : Int) + 1) = ((1 : Nat) : Int) := by rw [w64_in (by omega) (by omega)]; rfl
        rw [e1]
        have hq3 := hq1.up g1.toLeM
        have hx3 := hx1.mono g1.toLeM
        apply normal_parts_up.go16
        refine bcD (fun _ => ?_) fun h => absurd (show ((1 : Nat) : Int) < ((sx.n : Nat) : Int) by rw [hx2]; decide) h
        refine hx3.get (i := 1) (x := r) rfl fun a2 cs2 hK2 hc2 => ?_
        obtain ⟨s2, rfl, hs2⟩ := TK.open hK2
        refine ⟨_, _, s2, hc2, (ihr hq3 hs2).mono ?_⟩
        rintro v L4 ⟨hle4, so2, ts2, rfl, hso2, hd2, hn2⟩
        have hl2 := dv_len hv hR h2 hd2
        refine ⟨so2, true, rfl, bcF rfl ?_⟩
        obtain ⟨cc2, hcc2, hrc2⟩ := hso2.cells
        refine ⟨cc2, ⟨hrc2, hcc2.one⟩, ?_⟩
        have ho4 := (g3.mono hle4)
        have hl3 : ([] ++ ts1).length ≤ 3 := by simp; omega
        refine Own.append (R := rTree) (bytes := 40) (m := so2.n) (ys := ts2) ho4 (g1.trans hle4) hcc2 hso2.n.symm (.inl (by rw [hso2.n]; omega)) fun s5 L5 k1 k2 k3 _ _ => ?_
        have e2 : w64 (((1 : Nat) : Int) + 1) = ((2 : Nat) : Int) := by rw [w64_in (by omega) (by omega)]; rfl
        rw [e2]
        apply normal_parts_up.go16
        refine bcD (fun h => absurd h (show ¬ ((2 : Nat) : Int) < ((sx.n : Nat) : Int) by rw [hx2]; decide)) fun _ => ?_
        have k3' : IsSl rTree L5 s5 (ts1 ++ ts2) := by have := k3.sl; simpa using this
        have hb : y.2 = [l.rule, r.rule] := by
          rcases hf with ⟨l', r', h, h'⟩ | ⟨h, _⟩
          · injection h with e h
            injection h with e' _
            rw [e, e']; exact h'
          · cases h
        refine up_c25 hv hR h2 h4 hE hq1 (x := .mk m 0 [l, r]) (Bd := nodesL ts1 + nodesL ts2) hw hsw hwl ?_ k1 hp k3' (dv_node hp hb hd1 hd2) (by rw [nodesL_append]; omega)
        intro L' so ts q1 q2 q3 q4
        refine ⟨hle1.trans q1, so, ts, rfl, q2, q3, ?_⟩
        have := Nat.mul_le_mul_left (E + 1) hwn
        simp only [endsN, endsL]
        rw [if_neg (by simp)]
        simp only [List.length_append, List.length_nil]
        rw [Nat.mul_add, Nat.mul_add]
        omega
      apply normal_parts_up.go3
      refine bcE (fun _ => bcNE (fun h => absurd rfl h) fun _ => ?_) fun h => absurd (by rw [hx2]; rfl) h
      refine hx.get (i := 0) (x := l) rfl fun a1 cs1 hK1 hc1 => ?_
      obtain ⟨s1, rfl, _⟩ := TK.open hK1
      have r1 := hc1.1
      rw [add_zero] at r1
      refine ⟨_, r1, hx.get (i := 1) (x := r) rfl fun a2 cs2 hK2 hc2 => ?_⟩
      obtain ⟨s2, rfl, _⟩ := TK.open hK2
      have r2 := hc2.1
      rw [add_zero] at r2
      refine ⟨_, r2, bcD (fun h => ?_) fun _ => c5⟩
      unfold mnx at h
      simp only at h
      split at h <;> omega
    refine bcNE (fun _ => bcNE (fun h => absurd (by rw [hx2]; rfl) h) fun _ => bcE (fun h => absurd h (by rw [hx2]; decide)) fun _ => c3) fun h => absurd h (by rw [hx2]; decide)
end Go.Proofs.YtcnkbjipogngaaaDoor.NormT

