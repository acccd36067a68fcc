/- Contracts of the program's functions. -/
import Derived.Test.YtjmpheidcofhnaaDoorCAll5
import Derived.Test.YtjmpheidcofhnaaDoorCAll6
import Derived.Test.YtjmpheidcofhnaaDoorCAll4
set_option linter.all false
namespace Go.Proofs.YtjmpheidcofhnaaDoor
open Go Go.Proofs.YtjmpheidcofhnaaDoor.GH

theorem off_off {A M : Nat → Prop} {L : GHeap} (h : ∀ b, A b → M b) : (L.off A).off M = L.off M := by
  refine GHeap.ext (fun a => ?_) (fun a => ?_) rfl rfl rfl
  · by_cases hm : M a.block
    · rw [off_none hm, off_none hm]
    · rw [off_mem hm, off_mem hm, off_mem (fun ha => hm (h _ ha))]
  · exact ⟨fun ⟨h1, h2⟩ => ⟨h1, h2.2⟩, fun ⟨h1, h2⟩ => ⟨h1, fun ha => h1 (h _ ha), h2⟩⟩
theorem off_sub {A M : Nat → Prop} {L L' : GHeap} (h : ∀ b, A b → M b) (e : L'.off A = L.off A) : L'.off M = L.off M := by rw [← off_off h, e, off_off h]

/-- The rest of an owned slice. -/
theorem Own.drop {α : Type} {L0 L : GHeap} {R : Rp α} {s : Sl} {xs : List α} (h : Own L0 R L s xs) {l : Nat} (hl : l ≤ xs.length) : Own L0 R L ⟨subA s.a s.c l R.sz, s.n - l, s.c - l⟩ (xs.drop l) := by
  have hn := h.sl.n
  have hc := h.sl.c
  refine ⟨h.sl.drop hl, fun h0 => ?_⟩
  have h0 : 0 < s.c - l := h0
  obtain ⟨a, h1, h2, h3, h4, h5⟩ := h.spare (by omega)
  cases l with
  | zero =>
    exact ⟨a, h1, h2, h3, h4, fun i g1 g2 => h5 i (by simpa using g1) (by simpa using g2)⟩
  | succ l =>
    refine ⟨a.add ((l + 1) * R.sz), ?_, ?_, ?_, ?_, fun i g1 g2 => ?_⟩
    · show (if s.c = l + 1 then s.a else s.a.map fun x => x.add ((l + 1) * R.sz)) = _
      rw [if_neg (by omega), h1]; rfl
    · rw [add_spot h2]
    · rw [add_block]; exact h3
    · rw [add_block]; exact h4
    · simp only at g1 g2
      rw [add_add]
      refine h5 _ ?_ ?_
      · have : s.n * R.sz = (l + 1) * R.sz + (s.n - (l + 1)) * R.sz := by rw [← Nat.add_mul]; congr 1; omega
        omega
      · have : s.c * R.sz = (l + 1) * R.sz + (s.c - (l + 1)) * R.sz := by rw [← Nat.add_mul]; congr 1; omega
        omega

/-- While Loops looks for what one nonterminal leads to. -/
structure BSt (L0 L : GHeap) (bo bs nn : Nat) (out seen : List Bool) (sa : Sl) (at_ : List Int) : Prop where
  bne : bo ≠ bs
  hout : PA Value.bool L0 L (· = bo) ⟨some ⟨bo, 0, none⟩, nn, nn⟩ out
  hseen : PA Value.bool L0 L (· = bs) ⟨some ⟨bs, 0, none⟩, nn, nn⟩ seen
  le : Le L0 (L.off fun b => b = bo ∨ b = bs)
  hat : Own L0 rI (L.off fun b => b = bo ∨ b = bs) sa at_

structure BInv (E : Int → Int → Prop) (n : Int) (nn : Nat) (seen : List Bool) (at_ : List Int) (z : Option Int) : Prop where
  len : seen.length = nn
  snd : ∀ m : Nat, m < nn → seen.getD m false = true → ∃ k, Walk E (k + 1) n m
  que : ∀ x ∈ at_, 0 ≤ x ∧ x.toNat < nn ∧ (x = n ∨ seen.getD x.toNat false = true)
  cl : ∀ x : Int, 0 ≤ x → (x = n ∨ seen.getD x.toNat false = true) → x ∈ at_ ∨ some x = z ∨ ∀ y, E x y → seen.getD y.toNat false = true

theorem walk_seen {E : Int → Int → Prop} {n : Int} {nn : Nat} {seen : List Bool} (h : BInv E n nn seen [] none) (hn : 0 ≤ n) (hE : ∀ a b, E a b → 0 ≤ b) : ∀ (k : Nat) (m : Int), Walk E (k + 1) n m → 0 ≤ m ∧ seen.getD m.toNat false = true := by
  intro k
  induction k with
  | zero =>
    rintro m ⟨c, rfl, he⟩
    refine ⟨hE _ _ he, ?_⟩
    rcases h.cl n hn (.inl rfl) with h1 | h1 | h1
    · cases h1
    · cases h1
    · exact h1 m he
  | succ k ih =>
    rintro m ⟨c, hw, he⟩
    obtain ⟨c0, hc⟩ := ih c hw
    refine ⟨hE _ _ he, ?_⟩
    rcases h.cl c c0 (.inr hc) with h1 | h1 | h1
    · cases h1
    · cases h1
    · exact h1 m he

def LoopsPost (g : Gram) (L : GHeap) (v : Value) (L' : GHeap) : Prop :=
  Le L L' ∧ ∃ (so : Sl) (out : List Bool), v = .tuple #[.slice so.a so.n so.c, .int .i64 0] ∧ IsSl rB L' so out ∧ out.length = g.nons.toNat ∧ ∀ n : Nat, n < g.nons.toNat → (out.getD n false = true ↔ OnLoop (Edge g true) n)

section
variable {L Lb : GHeap} {g : Gram} {sg sl : Sl} {l : List (Int × Int)} {bo bs : Nat} {K : Value → GHeap → Prop}

theorem BSt.up {L0 : GHeap} {nn : Nat} {out seen : List Bool} {sa : Sl} {at_ : List Int} (h : BSt L0 L bo bs nn out seen sa at_) : LeM L0 L := h.le.toLeM.trans off_le

theorem Loops_bfs (hv : Valid g) (hsg : IsSl rRule Lb sg g.rules) (hl : IsSl rS2 Lb sl l) (hst : Stp g true l) {n : Nat} {out : List Bool}
    (hK : ∀ (L : GHeap) (seen : List Bool) (sa : Sl), BSt Lb L bo bs g.nons.toNat out seen sa [] → BInv (Edge g true) n g.nons.toNat seen [] none →
      cycle_Loops.c10 K sl ⟨some ⟨bo, 0, none⟩, g.nons.toNat, g.nons.toNat⟩ (n : Int) ⟨some ⟨bs, 0, none⟩, g.nons.toNat, g.nons.toNat⟩ sa ((g.nons.toNat : Nat) : Int) (n : Int) g.terms g.nons g.start sg L) :
    ∀ (μ : Nat) (L : GHeap) (seen : List Bool) (sa : Sl) (at_ : List Int), 2 * falses seen + at_.length ≤ μ → μ ≤ 1048576 → BSt Lb L bo bs g.nons.toNat out seen sa at_ → BInv (Edge g true) n g.nons.toNat seen at_ none →
      cycle_Loops.c10 K sl ⟨some ⟨bo, 0, none⟩, g.nons.toNat, g.nons.toNat⟩ (n : Int) ⟨some ⟨bs, 0, none⟩, g.nons.toNat, g.nons.toNat⟩ sa ((g.nons.toNat : Nat) : Int) (n : Int) g.terms g.nons g.start sg L := by
  have hnn := hv.nons
  intro μ
  induction μ with
  | zero =>
    intro L seen sa at_ hμ _ hS hI
    have : at_ = [] := List.eq_nil_of_length_eq_zero (by omega)
    subst this
    exact hK L seen sa hS hI
  | succ μ ih =>
    intro L seen sa at_ hμ hμb hS hI
    cases at_ with
    | nil => exact hK L seen sa hS hI
    | cons x at_ =>
    have hsa := hS.hat.sl
    have hsn := hsa.n
    simp only [List.length_cons] at hsn hμ
    obtain ⟨x0, xn, xs⟩ := hI.que x (List.mem_cons_self ..)
    apply cycle_Loops.go10
    refine bcD (fun _ => ?_) fun h => absurd (by omega) h
    refine hsa.get (i := 0) (x := x) rfl fun a cs hKc hc => ?_
    obtain rfl := hKc
    refine ⟨_, reads_one (off_le.reads hc), ⟨by omega, by omega⟩, ?_⟩
    have hD := Own.drop (l := 1) hS.hat (by simp)
    simp only [List.drop_succ_cons, List.drop_zero] at hD
    -- the steps from x
    have key : ∀ j, j ≤ l.length → ∀ (L2 : GHeap) (seen2 : List Bool) (sa2 : Sl) (at2 : List Int), 2 * falses seen2 + at2.length ≤ μ → BSt Lb L2 bo bs g.nons.toNat out seen2 sa2 at2 → BInv (Edge g true) n g.nons.toNat seen2 at2 (some x) → (x = n ∨ seen2.getD x.toNat false = true) →
        (∀ s ∈ l.take j, ∀ r, g.rules[s.1.toNat]? = some r → r.left = x → seen2.getD s.2.toNat false = true) →
        cycle_Loops.c14 K sl ⟨some ⟨bo, 0, none⟩, g.nons.toNat, g.nons.toNat⟩ (n : Int) ⟨some ⟨bs, 0, none⟩, g.nons.toNat, g.nons.toNat⟩ sa2 x ((g.nons.toNat : Nat) : Int) (n : Int) sl ((sl.n : Nat) : Int) ((j : Nat) : Int) g.terms g.nons g.start sg L2 := by
      refine down ?_ ?_
      · intro L2 seen2 sa2 at2 hm hS2 hI2 hx hd
        rw [List.take_length] at hd
        apply cycle_Loops.go14
        refine bcD (fun h => absurd h (by rw [hl.n]; omega)) fun _ => ?_
        refine ih L2 seen2 sa2 at2 hm (by omega) hS2 ⟨hI2.len, hI2.snd, hI2.que, fun z z0 hz => ?_⟩
        rcases hI2.cl z z0 hz with h1 | h1 | h1
        · exact .inl h1
        · injection h1 with h1
          subst h1
          refine .inr (.inr fun y he => ?_)
          obtain ⟨s, s1, r, s2, s3, rfl⟩ := hst.ex _ _ he
          exact hd s s1 r s2 s3
        · exact .inr (.inr h1)
      · intro j hj ihj L2 seen2 sa2 at2 hm hS2 hI2 hx hd
        rw [List.take_succ_eq_append_getElem hj] at ihj
        obtain ⟨i, r, e1, e2, r0, r1, t0, t1, hE⟩ := hst.ok _ (List.getElem_mem hj)
        have hir := (List.getElem?_eq_some_iff.1 e2).1
        have hlen2 := hI2.len
        have ht : l[j].2.toNat < seen2.length := by omega
        have hgd := getB_get ht
        have next : ∀ (L3 : GHeap) (seen3 : List Bool) (sa3 : Sl) (at3 : List Int), 2 * falses seen3 + at3.length ≤ μ → BSt Lb L3 bo bs g.nons.toNat out seen3 sa3 at3 → BInv (Edge g true) n g.nons.toNat seen3 at3 (some x) → (x = n ∨ seen3.getD x.toNat false = true) →
            (∀ s ∈ l.take j, ∀ r, g.rules[s.1.toNat]? = some r → r.left = x → seen3.getD s.2.toNat false = true) → (r.left = x → seen3.getD l[j].2.toNat false = true) →
            cycle_Loops.c19 K sl ⟨some ⟨bo, 0, none⟩, g.nons.toNat, g.nons.toNat⟩ (n : Int) ⟨some ⟨bs, 0, none⟩, g.nons.toNat, g.nons.toNat⟩ sa3 x ((g.nons.toNat : Nat) : Int) (n : Int) sl ((sl.n : Nat) : Int) ((j : Nat) : Int) g.terms g.nons g.start sg L3 := by
          intro L3 seen3 sa3 at3 a1 a2 a3 a4 a5 a6
          apply cycle_Loops.go19
          unfold cycle_Loops.t19
          have := hst.len
          rw [add_one (by omega)]
          refine ihj L3 seen3 sa3 at3 a1 a2 a3 a4 fun s hs r' hr' hl' => ?_
          rcases List.mem_append.1 hs with hs | hs
          · exact a5 s hs r' hr' hl'
          · rw [List.mem_singleton] at hs
            subst hs
            rw [e1, Int.toNat_natCast, e2] at hr'
            cases hr'
            exact a6 hl'
        apply cycle_Loops.go14
        refine bcD (fun _ => ?_) fun h => absurd (by rw [hl.n]; omega) h
        refine (hl.mono hS2.up).get (List.getElem?_eq_getElem hj) fun a2 cs2 hK2 hc2 => ?_
        obtain rfl := hK2
        refine ⟨_, _, hc2, ?_⟩
        refine (hsg.mono hS2.up).getI (r := l[j].1) (x := r) (by rw [e1]; omega) (by rw [e1, Int.toNat_natCast]; exact e2) fun a3 cs3 hK3 hc3 => ?_
        obtain ⟨sr, rfl, _⟩ := hK3
        refine ⟨r.left, by have := hc3.1; rwa [add_zero] at this, bcE (fun hlx => ?_) fun hlx => next L2 seen2 sa2 at2 hm hS2 hI2 hx hd fun h => absurd h hlx⟩
        refine hS2.hseen.getI t0 (List.getElem?_eq_getElem ht) fun a4 hc4 => ⟨_, hc4, bcN (bcI (fun hin => next L2 seen2 sa2 at2 hm hS2 hI2 hx hd fun _ => by rw [hgd, hin]) fun hin => ?_)⟩
        refine hS2.hseen.setI t0 ht (x := true) rfl fun L3 hp3 ho3 => ?_
        have hMo : ∀ b, b = bs → b = bo ∨ b = bs := fun b h => .inr h
        have hoff3 := off_sub (M := fun b => b = bo ∨ b = bs) hMo ho3
        have hout3 := hS2.hout.same (same_of_off (M := (· = bo)) (b := bs) (fun h => hS2.bne h.symm) ho3)
        have hfal : falses (seen2.set l[j].2.toNat true) + 1 = falses seen2 := by
          have hcc := countB_set (p := fun b => !b) (v := true) ht
          rw [hin] at hcc
          simp at hcc
          unfold falses; omega
        have hg3 : ∀ m : Nat, (seen2.set l[j].2.toNat true).getD m false = if m = l[j].2.toNat then true else seen2.getD m false := fun m => getB_set ht m
        have hup : ∀ m : Nat, seen2.getD m false = true → (seen2.set l[j].2.toNat true).getD m false = true := fun m h => by rw [hg3]; split <;> first | rfl | exact h
        have hlive : Live (fun b => b = bo ∨ b = bs) L3 := by
          rintro b (rfl | rfl)
          · exact hout3.live _ rfl
          · exact hp3.live _ rfl
        have hatb : at2.length ≤ 1048576 := by omega
        refine appendK_off hlive (Own.append (R := rI) (bytes := 8) (m := 1) (L0 := Lb) (xs := at2) (ys := [l[j].2]) (by rw [hoff3]; exact hS2.hat) (by rw [hoff3]; exact hS2.le) (Cells.cons (c := [.int .i64 l[j].2]) rfl .nil) rfl (.inl (by omega)) (k := fun s' L' => Le Lb L' ∧ Own Lb rI L' s' (at2 ++ [l[j].2])) fun s' L' h1 _ h3 _ _ => ⟨h1, h3⟩) fun s4 L4 hsame hlive4 hh => ?_
        obtain ⟨hle4, hat4⟩ := hh
        refine next L4 _ s4 (at2 ++ [l[j].2]) (by rw [List.length_append, List.length_singleton]; omega) ⟨hS2.bne, hout3.same fun a ha => hsame a (.inl ha), hp3.same fun a ha => hsame a (.inr ha), hle4, hat4⟩ ?_ (hx.imp id (hup _)) (fun s hs r' hr' hl' => hup _ (hd s hs r' hr' hl')) fun _ => by rw [hg3, if_pos rfl]
        refine ⟨by rw [List.length_set]; exact hlen2, fun m hm hc => ?_, fun y hy => ?_, fun z z0 hz => ?_⟩
        · rw [hg3] at hc
          split at hc
          · rename_i e
            subst e
            have e : ((l[j].2.toNat : Nat) : Int) = l[j].2 := by omega
            rw [e]
            rw [hlx] at hE
            rcases hx with rfl | hx
            · exact ⟨0, _, rfl, hE⟩
            · obtain ⟨k, hk⟩ := hI2.snd x.toNat xn hx
              rw [Int.toNat_of_nonneg x0] at hk
              exact ⟨k + 1, x, hk, hE⟩
          · exact hI2.snd m hm hc
        · rcases List.mem_append.1 hy with hy | hy
          · obtain ⟨y0, y1, y2⟩ := hI2.que y hy
            exact ⟨y0, y1, y2.imp id (hup _)⟩
          · rw [List.mem_singleton] at hy
            subst hy
            exact ⟨t0, by omega, .inr (by rw [hg3, if_pos rfl])⟩
        · by_cases ez : z = l[j].2
          · exact .inl (List.mem_append_right _ (by rw [ez]; exact List.mem_singleton.2 rfl))
          · have hz : z = n ∨ seen2.getD z.toNat false = true := hz.imp id fun h => by
              rw [hg3, if_neg (by omega)] at h; exact h
            rcases hI2.cl z z0 hz with h1 | h1 | h1
            · exact .inl (List.mem_append_left _ h1)
            · exact .inr (.inl h1)
            · exact .inr (.inr fun y he => hup _ (h1 y he))
    refine key 0 (Nat.zero_le _) L seen _ at_ (by omega) ⟨hS.bne, hS.hout, hS.hseen, hS.le, hD⟩ ⟨hI.len, hI.snd, fun y hy => hI.que y (List.mem_cons_of_mem _ hy), fun z z0 hz => ?_⟩ xs fun s hs => by simp at hs
    rcases hI.cl z z0 hz with h1 | h1 | h1
    · rcases List.mem_cons.1 h1 with rfl | h1
      · exact .inr (.inl rfl)
      · exact .inl h1
    · cases h1
    · exact .inr (.inr h1)
end

theorem falses_le {l : List Bool} : falses l ≤ l.length := by unfold falses; exact List.countP_le_length

theorem Loops_spec {L : GHeap} {g : Gram} {sg : Sl} (hv : Valid g) (hs : IsSl rRule L sg g.rules) : ACalls PP cycle_Loops.id [gramV g sg] L (LoopsPost g L) := by
  have hnn := hv.nons
  apply cycle_Loops.go
  refine (steps_spec (whole := true) hv hs).mono ?_
  rintro v L1 ⟨hle1, sl, l, rfl, hl, hst⟩
  have hs1 := hs.mono hle1.toLeM
  have hE : ∀ a b, Edge g true a b → 0 ≤ b := fun a b h => by
    obtain ⟨x, hx, r, _, _, rfl⟩ := hst.ex a b h
    obtain ⟨_, _, _, _, _, _, h0, _⟩ := hst.ok x hx
    exact h0
  refine ⟨sl, 0, rfl, bcNE (fun h => absurd rfl h) fun _ => ⟨⟨by omega, by omega, by omega⟩, fun bo hu => inLI ?_⟩⟩
  rw [Nat.mul_one]
  obtain ⟨hpa, hoff⟩ := PA.new (f := Value.bool) (L0 := L1) (z := false) (v := .bool false) (n := g.nons.toNat) rfl hu (LeM.refl L1) (by omega)
  have key : ∀ i, i ≤ g.nons.toNat → ∀ (L2 : GHeap) (out : List Bool), PA Value.bool L1 L2 (· = bo) ⟨some ⟨bo, 0, none⟩, g.nons.toNat, g.nons.toNat⟩ out → Le L1 (L2.off (· = bo)) → out.length = g.nons.toNat → (∀ n : Nat, n < i → (out.getD n false = true ↔ OnLoop (Edge g true) n)) →
      cycle_Loops.c6 (LoopsPost g L) sl ⟨some ⟨bo, 0, none⟩, g.nons.toNat, g.nons.toNat⟩ ((g.nons.toNat : Nat) : Int) ((i : Nat) : Int) g.terms g.nons g.start sg L2 := by
    refine down ?_ ?_
    · intro L2 out hp hle hlen hd
      apply cycle_Loops.go6
      exact bcD (fun h => absurd h (by omega)) fun _ => ⟨hle1.trans (hp.le hle), _, out, rfl, hp.isBool, hlen, hd⟩
    · intro i hi ih L2 out hp hle hlen hd
      apply cycle_Loops.go6
      refine bcD (fun _ => ⟨⟨by omega, by omega, by omega⟩, fun bs hus => inLI fun bq huq => inLI ?_⟩) fun h => absurd (by omega) h
      rw [Nat.mul_one] at huq ⊢
      have hup : LeM L1 L2 := hle.toLeM.trans off_le
      obtain ⟨hps, hoffs⟩ := PA.new (f := Value.bool) (L0 := L1) (z := false) (v := .bool false) (n := g.nons.toNat) rfl hus hup (by omega)
      have hbne : bo ≠ bs := fun e => hp.live.not hus e.symm
      have hoM : (L2.alloc bs (zeros g.nons.toNat [.bool false]) g.nons.toNat).off (fun b => b = bo ∨ b = bs) = L2.off (· = bo) := alloc_off (M := (· = bo)) hus
      have hlive1 : Live (fun b => b = bo ∨ b = bs) (L2.alloc bs (zeros g.nons.toNat [.bool false]) g.nons.toNat) := by
        rintro b (rfl | rfl)
        · exact (hp.same (SameOn.alloc (M := (· = b)) (fun e => hbne e.symm))).live _ rfl
        · exact hps.live _ rfl
      have hnq := hlive1.not huq
      have hoM2 := off_alloc (L := L2.alloc bs (zeros g.nons.toNat [.bool false]) g.nons.toNat) (M := fun b => b = bo ∨ b = bs) (cs := [.int .i64 (i : Int)]) (n := 1) hnq
      rw [hoM] at hoM2
      have huq' : (L2.off (· = bo)).unused bq := by
        have := unused_off (M := fun b => b = bo ∨ b = bs) huq
        rwa [hoM] at this
      have hown := (own_one huq' (i : Int)).back hle.toLeM
      refine Loops_bfs hv hs1 hl hst (n := i) (out := out) (bo := bo) (bs := bs) (fun L3 seen sa hS hI => ?_) (2 * g.nons.toNat + 1) _ (List.replicate g.nons.toNat false) _ [(i : Int)] ?_ (by omega) ⟨hbne, ?_, ?_, ?_, ?_⟩ ⟨by simp, fun m hm hc => ?_, fun x hx => ?_, fun x x0 hx => ?_⟩
      · -- done with one
        have hsn := hS.hat.sl.n
        have hsl := hI.len
        have hseq : (seen.getD i false = true ↔ OnLoop (Edge g true) i) := by
          constructor
          · intro h; exact hI.snd i hi h
          · rintro ⟨k, hk⟩
            have := (walk_seen hI (by omega) hE k _ hk).2
            rwa [Int.toNat_natCast] at this
        apply cycle_Loops.go10
        refine bcD (fun h => ?_) fun _ => ?_
        · simp only [List.length_nil] at hsn; omega
        refine hS.hseen.getI (r := (i : Int)) (by omega) (x := seen[i]) (by rw [Int.toNat_natCast]; exact List.getElem?_eq_getElem (by omega)) fun a hc => ⟨_, hc, ?_⟩
        refine hS.hout.setI (r := (i : Int)) (by omega) (by rw [Int.toNat_natCast]; omega) (x := seen[i]) rfl fun L4 hp4 ho4 => ?_
        rw [Int.toNat_natCast] at hp4
        rw [add_one (by omega)]
        refine ih L4 _ hp4 ?_ (by rw [List.length_set]; exact hlen) fun n hn => ?_
        · rw [ho4]
          -- what the rest of the heap has gained
          have h1 : Le L1 ((L3.off (· = bo)).off (· = bs)) := by
            have e : (L3.off (· = bo)).off (· = bs) = L3.off fun b => b = bo ∨ b = bs := by
              refine GHeap.ext (fun a => ?_) (fun a => ?_) rfl rfl rfl
              · by_cases h2 : a.block = bs
                · rw [off_none (M := (· = bs)) h2, off_none (M := fun b => b = bo ∨ b = bs) (.inr h2)]
                · rw [off_mem (M := (· = bs)) h2]
                  by_cases h1 : a.block = bo
                  · rw [off_none (M := (· = bo)) h1, off_none (M := fun b => b = bo ∨ b = bs) (.inl h1)]
                  · rw [off_mem (M := (· = bo)) h1, off_mem (M := fun b => b = bo ∨ b = bs) (fun h => h.elim h1 h2)]
              · exact ⟨fun ⟨h1, h2, h3⟩ => ⟨fun h => h.elim h2 h1, h3⟩, fun ⟨h1, h3⟩ => ⟨fun h => h1 (.inr h), fun h => h1 (.inl h), h3⟩⟩
            rw [e]; exact hS.le
          exact le_of_off (M := (· = bs)) (fun b hb => by subst hb; exact hup.unused hus) h1
        · rw [getB_set (by omega)]
          by_cases e : n = i
          · subst e
            rw [if_pos rfl, ← hseq, getB_get (by omega)]
          · rw [if_neg e]; exact hd n (by omega)
      · have := falses_le (l := List.replicate g.nons.toNat false)
        simp at this ⊢; omega
      · exact (hp.same (SameOn.alloc (M := (· = bo)) (fun e => hbne e.symm))).same (SameOn.alloc (M := (· = bo)) fun e => hnq (.inl e))
      · exact hps.same (SameOn.alloc (M := (· = bs)) fun e => hnq (.inr e))
      · rw [hoM2]; exact hle.trans (Le.alloc huq' _ _)
      · rw [hoM2]; exact hown
      · rw [List.getD_eq_getElem?_getD, List.getElem?_replicate] at hc
        split at hc <;> cases hc
      · rw [List.mem_singleton] at hx; subst hx; exact ⟨by omega, by omega, .inl rfl⟩
      · rcases hx with rfl | hx
        · exact .inl (List.mem_singleton.2 rfl)
        · rw [List.getD_eq_getElem?_getD, List.getElem?_replicate] at hx
          split at hx <;> cases hx
  exact key 0 (Nat.zero_le _) _ _ hpa (by rw [hoff]; exact .refl _) (by simp) fun n hn => by omega
end Go.Proofs.YtjmpheidcofhnaaDoor

namespace Go.Proofs.YtjmpheidcofhnaaDoor
open Go Go.Proofs.YtjmpheidcofhnaaDoor.GH

theorem cellB_set2 {rows : List (List Bool)} {i j : Nat} {row : List Bool} (hi : rows[i]? = some row) (hj : j < row.length) (v : Bool) (a b : Nat) : cellB (rows.set i (row.set j v)) a b = if a = i ∧ b = j then v else cellB rows a b := by
  have hlt := (List.getElem?_eq_some_iff.1 hi).1
  rw [cellB_set hlt]
  by_cases e : a = i
  · subst e
    rw [if_pos rfl, getB_set hj]
    by_cases e2 : b = j
    · rw [if_pos e2, if_pos ⟨rfl, e2⟩]
    · rw [if_neg e2, if_neg (fun h => e2 h.2)]
      unfold cellB
      simp only [Int.toNat_natCast]
      rw [List.getD_eq_getElem?_getD (l := rows), hi]; rfl
  · rw [if_neg e, if_neg (fun h => e h.1)]

theorem cellB_at {rows : List (List Bool)} {i j : Nat} {row : List Bool} {v : Bool} (hi : rows[i]? = some row) (hj : row[j]? = some v) : cellB rows i j = v := by
  unfold cellB
  simp only [Int.toNat_natCast]
  rw [List.getD_eq_getElem?_getD (l := rows), hi, Option.getD_some, List.getD_eq_getElem?_getD, hj]; rfl

structure Tab (nn : Nat) (rows : List (List Bool)) : Prop where
  len : rows.length = nn
  row : ∀ r ∈ rows, r.length = nn

theorem Tab.get {nn : Nat} {rows : List (List Bool)} (h : Tab nn rows) {i j : Nat} (hi : i < nn) (hj : j < nn) : ∃ row v, rows[i]? = some row ∧ row[j]? = some v ∧ row.length = nn ∧ cellB rows i j = v := by
  have hi' : i < rows.length := by rw [h.len]; exact hi
  have hl := h.row _ (List.getElem_mem hi')
  have hj' : j < rows[i].length := by rw [hl]; exact hj
  exact ⟨rows[i], rows[i][j], List.getElem?_eq_getElem hi', List.getElem?_eq_getElem hj', hl, cellB_at (List.getElem?_eq_getElem hi') (List.getElem?_eq_getElem hj')⟩
theorem Tab.set {nn : Nat} {rows : List (List Bool)} (h : Tab nn rows) {i j : Nat} {row : List Bool} (hi : rows[i]? = some row) (v : Bool) : Tab nn (rows.set i (row.set j v)) := by
  refine ⟨by rw [List.length_set]; exact h.len, fun r hr => ?_⟩
  rcases List.mem_or_eq_of_mem_set hr with hr | rfl
  · exact h.row r hr
  · rw [List.length_set]; exact h.row row (List.mem_of_getElem? hi)

end Go.Proofs.YtjmpheidcofhnaaDoor

