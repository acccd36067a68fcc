/- Package factor: the steps of factoring, the whole of it. -/
import Derived.Test.YtekiknmhlfiemaaDoorVAll1
import Derived.Test.YtekiknmhlfiemaaDoorCOfLaw
import Derived.Test.YtekiknmhlfiemaaDoorLibD
set_option linter.all false
namespace Go.Proofs.YtekiknmhlfiemaaDoor
open Go Go.Proofs.YtekiknmhlfiemaaDoor.GH

theorem mnx_min (a b : Int) : mnx .min a b = min a b := by simp only [mnx]; omega

def cmn : List Sym → List Sym → Nat
  | x :: xs, y :: ys => if x = y then cmn xs ys + 1 else 0
  | _, _ => 0

theorem cmn_nil {xs : List Sym} : cmn xs [] = 0 := by cases xs <;> rfl
theorem cmn_le : ∀ {xs ys : List Sym}, cmn xs ys ≤ xs.length ∧ cmn xs ys ≤ ys.length
  | [], _ => by simp [cmn]
  | _ :: _, [] => by simp [cmn]
  | x :: xs, y :: ys => by
    have := cmn_le (xs := xs) (ys := ys)
    simp only [cmn, List.length_cons]; split <;> omega

theorem common_ro {L : GHeap} {s1 s2 : Sl} {xs ys : List Sym} (h1 : IsSl rSym L s1 xs) (h2 : IsSl rSym L s2 ys) (hb : xs.length ≤ 1048576) :
    RO PP factor_common.id [.slice s1.a s1.n s1.c, .slice s2.a s2.n s2.c] L (.int .i64 (cmn xs ys)) := by
  apply factor_common.go
  have key : ∀ i, i ≤ min xs.length ys.length → cmn xs ys = i + cmn (xs.drop i) (ys.drop i) → factor_common.c2 (fun u L' => u = Value.int .i64 (cmn xs ys) ∧ L' = L) s1 s2 ((i : Nat) : Int) L := by
    refine down ?_ ?_
    · intro he
      apply factor_common.go2
      refine bcD (fun h => ?_) fun _ => factor_common.go4 ⟨?_, rfl⟩
      · rw [mnx_min, h1.n, h2.n] at h; omega
      · rw [he]
        rcases Nat.le_total xs.length ys.length with h | h
        · rw [Nat.min_eq_left h, List.drop_length]; simp [cmn]
        · rw [Nat.min_eq_right h, List.drop_length, cmn_nil]; simp
    · intro i hi ih he
      have hx : i < xs.length := by omega
      have hy : i < ys.length := by omega
      rw [List.drop_eq_getElem_cons hx, List.drop_eq_getElem_cons hy] at he
      simp only [cmn] at he
      apply factor_common.go2
      refine bcD (fun _ => ?_) fun h => absurd (by rw [mnx_min, h1.n, h2.n]; omega) h
      refine h1.get (List.getElem?_eq_getElem hx) fun a cs hK hc => ?_
      obtain rfl := hK
      refine ⟨_, _, hc, ?_⟩
      refine h2.get (List.getElem?_eq_getElem hy) fun a' cs' hK' hc' => ?_
      obtain rfl := hK'
      refine ⟨_, _, hc', bcI (fun h => ?_) fun h => factor_common.go4 ⟨?_, rfl⟩⟩
      · have e : xs[i] = ys[i] := by
          cases hxi : xs[i]; cases hyi : ys[i]
          rw [hxi, hyi] at h; simpa using h
        rw [if_pos e] at he
        rw [add_one (by omega)]
        exact ih (by omega)
      · have e : ¬ xs[i] = ys[i] := fun e => by rw [e] at h; simp at h
        rw [if_neg e] at he
        rw [he]; simp
  exact key 0 (Nat.zero_le _) (by simp)

def grp (g : Gram) (n : Int) (r : Rule) : List Int := whereI (fun q => q.left == n && decide (0 < cmn q.right r.right)) 0 g.rules

def bstStep (g : Gram) (n : Int) (best : List Int) (i : Nat) (r : Rule) : List Int :=
  if r.left ≠ n then best else if r.right = [] then best else
    if 1 < (grp g n r).length ∧ (best = [] ∨ ordS (r.right.headD ⟨false, 0⟩) ((rt g (best.headD 0)).headD ⟨false, 0⟩) < 0) ∧ (grp g n r).headD 0 = i then grp g n r else best
def bstL (g : Gram) (n : Int) : List Rule → Nat → List Int → List Int
  | [], _, b => b
  | r :: rs, i, b => bstL g n rs (i + 1) (bstStep g n b i r)
def bst (g : Gram) (n : Int) : List Int := bstL g n g.rules 0 []
def sizeL (g : Gram) (b0 : Int) : List Int → Int → Int
  | [], z => z
  | k :: ks, z => sizeL g b0 ks (min z (cmn (rt g b0) (rt g k) : Nat))

structure Step where
  group : List Int
  size : Int
  non : Int
  first : Int
  rest : Int
  moved : List Int

def nxt (g : Gram) : Nat → Nat → Option Step
  | 0, _ => none
  | d + 1, n => if bst g n ≠ [] then some ⟨bst g n, sizeL g ((bst g n).headD 0) (bst g n) 4, g.nons, 0, 0, []⟩ else nxt g d (n + 1)
def facNext (g : Gram) : Option Step := nxt g g.nons.toNat 0

def rStep : Rp Step := ⟨6, by omega, fun L cs st => ∃ sg sm : Sl, cs = [.slice sg.a sg.n sg.c, .int .i64 st.size, .int .i64 st.non, .int .i64 st.first, .int .i64 st.rest, .slice sm.a sm.n sm.c] ∧ IsSl rI L sg st.group ∧ IsSl rI L sm st.moved,
  fun ⟨_, _, h, _⟩ => by rw [h]; rfl, fun ⟨_, _, h, _⟩ => by rw [h]; rfl, fun hl ⟨sg, sm, h, h1, h2⟩ => ⟨sg, sm, h, h1.mono hl, h2.mono hl⟩⟩

/-- What is known of the best group so far. -/
def BestOk (g : Gram) (n : Int) (best : List Int) : Prop := best = [] ∨ ∃ r ∈ g.rules, r.left = n ∧ r.right ≠ [] ∧ best = grp g n r ∧ 1 < best.length

theorem cmn_pos {xs ys : List Sym} (h : 0 < cmn xs ys) : xs ≠ [] ∧ ys ≠ [] ∧ xs.head? = ys.head? := by
  cases xs <;> cases ys <;> simp [cmn] at h ⊢
  split at h
  · assumption
  · omega

theorem cmn_heads {xs ys : List Sym} (h1 : xs ≠ []) (h : xs.head? = ys.head?) : 0 < cmn xs ys := by
  cases xs <;> cases ys <;> simp [cmn] at h1 h ⊢
  rw [if_pos h]; omega

theorem mem_grp {g : Gram} {n : Int} {r : Rule} {x : Int} : x ∈ grp g n r ↔ ∃ i q, g.rules[i]? = some q ∧ q.left = n ∧ 0 < cmn q.right r.right ∧ x = (i : Nat) := by
  unfold grp
  rw [mem_whereI]
  simp only [Bool.and_eq_true, beq_iff_eq, decide_eq_true_eq, Nat.zero_add, and_assoc]

theorem bstStep_ok {g : Gram} {n : Int} {best : List Int} {i : Nat} {r : Rule} (h : BestOk g n best) (hr : r ∈ g.rules) : BestOk g n (bstStep g n best i r) := by
  unfold bstStep
  split
  · exact h
  · split
    · exact h
    · split
      · rename_i h1 h2 h3
        exact .inr ⟨r, hr, by simpa using h1, h2, rfl, h3.1⟩
      · exact h

theorem next_c22 {L : GHeap} {g : Gram} {s sb : Sl} {best : List Int} {n : Int} {t0 t1 t2 t3 : Int} {t2_0 t2_5 : Sl} {K : Value → GHeap → Prop} (hs : IsSl rRule L s g.rules) (hb : IsSl rI L sb best) (hne : best ≠ []) (hok : BestOk g n best) (hl : best.length ≤ 1048576)
    (hr : ∀ r ∈ g.rules, r.right.length ≤ 1048576) (hk : K (.tuple #[.agg #[.slice sb.a sb.n sb.c, .int .i64 (sizeL g (best.headD 0) best 4), .int .i64 g.nons, .int .i64 0, .int .i64 0, .slice none 0 0], .bool true]) L) :
    factor_next.c22 K sb 4 sb ((sb.n : Nat) : Int) 0 g.terms g.nons g.start s t2_0 t0 t1 t2 t3 t2_5 L := by
  obtain ⟨b0, best', rfl⟩ := List.exists_cons_of_ne_nil hne
  obtain ⟨r0, _, _, _, hgrp, _⟩ := hok.resolve_left hne
  have hmem : ∀ x ∈ b0 :: best', ∃ (i : Nat) (q : Rule), g.rules[i]? = some q ∧ x = (i : Nat) := fun x hx => by
    rw [hgrp] at hx
    obtain ⟨i, q, e1, _, _, e2⟩ := mem_grp.1 hx
    exact ⟨i, q, e1, e2⟩
  have key : ∀ i, i ≤ (b0 :: best').length → ∀ z, sizeL g b0 (b0 :: best') 4 = sizeL g b0 ((b0 :: best').drop i) z → factor_next.c22 K sb z sb ((sb.n : Nat) : Int) ((i : Nat) : Int) g.terms g.nons g.start s t2_0 t0 t1 t2 t3 t2_5 L := by
    refine down ?_ ?_
    · intro z hz
      apply factor_next.go22
      refine bcD (fun h => absurd h (by rw [hb.n]; omega)) fun _ => ?_
      rw [List.drop_length] at hz
      simp only [sizeL] at hz
      rw [← hz]; exact hk
    · intro i hi ih z hz
      apply factor_next.go22
      refine bcD (fun _ => ?_) fun h => absurd (by rw [hb.n]; omega) h
      rw [List.drop_eq_getElem_cons hi] at hz
      have hz := hz.trans (show sizeL g b0 (_ :: _) z = sizeL g b0 _ _ from rfl)
      obtain ⟨j, q, hj, ej⟩ := hmem _ (List.getElem_mem hi)
      obtain ⟨j0, q0, hj0, ej0⟩ := hmem b0 (List.mem_cons_self ..)
      refine hb.get (List.getElem?_eq_getElem hi) fun a cs hK hc => ?_
      obtain rfl := hK
      refine ⟨_, reads_one hc, ?_⟩
      refine hb.get (i := 0) (x := b0) rfl fun a' cs' hK' hc' => ?_
      obtain rfl := hK'
      rw [ej]
      refine hs.get hj fun a2 cs2 hK2 hc2 => ?_
      obtain ⟨sq, rfl, hq⟩ := hK2
      refine ⟨sq, ?_, b0, reads_one hc', ?_⟩
      · have := hc2.2.1
        exact this
      rw [ej0]
      refine hs.get hj0 fun a3 cs3 hK3 hc3 => ?_
      obtain ⟨sq0, rfl, hq0⟩ := hK3
      refine ⟨sq0, hc3.2.1, (common_ro hq0 hq (hr _ (List.mem_of_getElem? hj0))).use ⟨_, rfl, ?_⟩⟩
      rw [add_one (by omega), mnx_min]
      refine ih _ ?_
      rw [hz, ← rt_get hj, ← rt_get hj0, ← ej, ← ej0]; rfl
  exact key 0 (Nat.zero_le _) 4 rfl

theorem whereI_head {p : Rule → Bool} {rs : List Rule} {k : Nat} {x : Int} (h : (whereI p k rs).headD 0 = x) (h1 : 1 < (whereI p k rs).length) : (whereI p k rs)[0]? = some x := by
  cases hw : whereI p k rs with
  | nil => rw [hw] at h1; simp at h1
  | cons y ys => rw [hw] at h; simpa using h

structure NSt (L0 L : GHeap) (g : Gram) (s : Sl) : Prop where
  le : Le L0 L
  sl : IsSl rRule L s g.rules

theorem next_c6 {L0 : GHeap} {g : Gram} {s : Sl} {n : Int} {t15 t16 t0 t1 t2 t3 : Int} {t2_0 t2_5 : Sl} {K : Value → GHeap → Prop} (hr : ∀ r ∈ g.rules, r.right.length ≤ 1048576) (hg : g.rules.length ≤ 1048576)
    (hk : ∀ L sb, Le L0 L → IsSl rRule L s g.rules → IsSl rI L sb (bst g n) → (sb.a.isNone = true ↔ bst g n = []) → 
      bc (!(Option.isNone sb.a)) (factor_next.c22 K sb 4 sb ((sb.n : Nat) : Int) 0 g.terms g.nons g.start s t2_0 t0 t1 t2 t3 t2_5 L) (factor_next.c2 K t15 (w64 (t16 + 1)) g.terms g.nons g.start s t2_0 t0 t1 t2 t3 t2_5 L)) :
    ∀ i, i ≤ g.rules.length → ∀ L sb best, Le L0 L → IsSl rRule L s g.rules → IsSl rI L sb best → (sb.a.isNone = true ↔ best = []) → BestOk g n best → bst g n = bstL g n (g.rules.drop i) i best →
      factor_next.c6 K n sb t15 t16 s ((s.n : Nat) : Int) ((i : Nat) : Int) g.terms g.nons g.start s t2_0 t0 t1 t2 t3 t2_5 L := by
  refine down ?_ ?_
  · intro L sb best hle hs hb hnil hok he
    apply factor_next.go6
    refine bcD (fun h => absurd h (by rw [hs.n]; omega)) fun _ => ?_
    rw [List.drop_length] at he
    simp only [bstL] at he
    exact hk L sb hle hs (by rw [he]; exact hb) (by rw [he]; exact hnil)
  · intro i hi ih L sb best hle hs hb hnil hok he
    rw [List.drop_eq_getElem_cons hi] at he
    simp only [bstL] at he
    have hmem := List.getElem_mem hi
    have skip : ∀ L', Le L0 L' → IsSl rRule L' s g.rules → IsSl rI L' sb best → bstStep g n best i g.rules[i] = best → factor_next.c18 K n sb t15 t16 s ((s.n : Nat) : Int) ((i : Nat) : Int) g.terms g.nons g.start s t2_0 t0 t1 t2 t3 t2_5 L' := by
      intro L' hle' hs' hb' e
      apply factor_next.go18
      unfold factor_next.t18
      rw [add_one (by omega)]
      refine ih L' sb best hle' hs' hb' hnil hok ?_
      rw [e] at he; exact he
    apply factor_next.go6
    refine bcD (fun _ => ?_) fun h => absurd (by rw [hs.n]; omega) h
    refine hs.get (List.getElem?_eq_getElem hi) fun a cs hK hc => ?_
    obtain ⟨sr, rfl, hr'⟩ := hK
    refine ⟨_, _, hc, bcNE (fun h => skip L hle hs hb (by unfold bstStep; rw [if_pos h])) fun hleft => bcE (fun h => skip L hle hs hb ?_) fun hne => ?_⟩
    · have : g.rules[i].right = [] := List.eq_nil_of_length_eq_zero (by have := hr'.n; omega)
      unfold bstStep; rw [if_neg (by simpa using hleft), if_pos this]
    · have hne' : g.rules[i].right ≠ [] := fun e => hne (by rw [hr'.n, e]; rfl)
      intro b37 hu
      simp only [inL]
      have hle1 : Le L (L.alloc b37 [] 0) := Le.alloc hu _ _
      have inner : ∀ j, j ≤ g.rules.length → ∀ L' sg, Le L0 L' → IsSl rRule L' s g.rules → IsSl rI L' sb best → IsSl rSym L' sr g.rules[i].right → Own L0 rI L' sg (whereI (fun q => q.left == n && decide (0 < cmn q.right g.rules[i].right)) 0 (g.rules.take j)) →
          factor_next.c11 K n sb ((i : Nat) : Int) sg t15 t16 s ((s.n : Nat) : Int) ((i : Nat) : Int) s ((s.n : Nat) : Int) ((j : Nat) : Int) g.terms g.nons g.start s t2_0 t0 t1 t2 t3 t2_5 n sr L' := by
        refine down ?_ ?_
        · intro L' sg hle' hs' hb' hr' hg'
          rw [List.take_length] at hg'
          apply factor_next.go11
          refine bcD (fun h => absurd h (by rw [hs'.n]; omega)) fun _ => ?_
          have hgsl : IsSl rI L' sg (grp g n g.rules[i]) := hg'.sl
          have hgn := hgsl.n
          have fin : (best = [] ∨ ordS (g.rules[i].right.headD ⟨false, 0⟩) ((rt g (best.headD 0)).headD ⟨false, 0⟩) < 0) → 1 < (grp g n g.rules[i]).length →
              ptrK sg.a fun x90 => ((0 ≤ (0 : Int)) ∧ ((0 : Int) < ((sg.n : Nat) : Int))) ∧ ∃ x91 : Int, L'.mem (Addr.add x90 (Int.toNat (0 : Int) * 1)) = some (.int .i64 x91) ∧ bc (x91 == ((i : Nat) : Int))
                (factor_next.c17 K n sg t15 t16 s ((s.n : Nat) : Int) ((i : Nat) : Int) g.terms g.nons g.start s t2_0 t0 t1 t2 t3 t2_5 L') (factor_next.c18 K n sb t15 t16 s ((s.n : Nat) : Int) ((i : Nat) : Int) g.terms g.nons g.start s t2_0 t0 t1 t2 t3 t2_5 L') := by
            intro h1 h2
            refine hgsl.get (i := 0) (x := (grp g n g.rules[i]).headD 0) (by cases hgg : grp g n g.rules[i] with | nil => rw [hgg] at h2; simp at h2 | cons y ys => rfl) fun a cs hK hc => ?_
            obtain rfl := hK
            refine ⟨_, reads_one hc, bcE (fun h3 => ?_) fun h3 => ?_⟩
            · apply factor_next.go17
              apply factor_next.go18
              unfold factor_next.t18
              rw [add_one (by omega)]
              have e : bstStep g n best i g.rules[i] = grp g n g.rules[i] := by
                unfold bstStep
                rw [if_neg (by simpa using hleft), if_neg hne', if_pos ⟨h2, h1, h3⟩]
              refine ih L' sg _ hle' hs' hgsl ?_ (.inr ⟨_, hmem, hleft, hne', rfl, h2⟩) (by rw [e] at he; exact he)
              constructor
              · intro hnone
                obtain ⟨a, _, ha, _⟩ := hgsl.at_ 0 ((grp g n g.rules[i]).headD 0) (by cases hgg : grp g n g.rules[i] with | nil => rw [hgg] at h2; simp at h2 | cons y ys => rfl)
                rw [ha] at hnone; cases hnone
              · intro e; rw [e] at h2; simp at h2
            · refine skip L' hle' hs' hb' ?_
              unfold bstStep
              rw [if_neg (by simpa using hleft), if_neg hne', if_neg (fun h => h3 h.2.2)]
          refine bcD (fun h => ?_) fun h => skip L' hle' hs' hb' ?_
          · have h2 : 1 < (grp g n g.rules[i]).length := by omega
            refine bcI (fun hn => fin (.inl (hnil.1 hn)) h2) fun hn => ?_
            have hbne : best ≠ [] := fun e => by rw [hnil.2 e] at hn; cases hn
            obtain ⟨b0, best', rfl⟩ := List.exists_cons_of_ne_nil hbne
            obtain ⟨r0, _, _, _, hgrp, _⟩ := hok.resolve_left hbne
            have hb0 : b0 ∈ grp g n r0 := by rw [← hgrp]; exact List.mem_cons_self ..
            obtain ⟨j0, q0, hj0, _, hcm, ej0⟩ := mem_grp.1 hb0
            obtain ⟨y, ys, hy⟩ := List.exists_cons_of_ne_nil hne'
            obtain ⟨y0, ys0, hy0⟩ := List.exists_cons_of_ne_nil (cmn_pos hcm).1
            refine hr'.get (i := 0) (x := y) (by rw [hy]; rfl) fun a cs hK hc => ?_
            obtain rfl := hK
            refine ⟨_, _, hc, ?_⟩
            refine hb'.get (i := 0) (x := b0) rfl fun a2 cs2 hK2 hc2 => ?_
            obtain rfl := hK2
            refine ⟨_, reads_one hc2, ?_⟩
            rw [ej0]
            refine hs'.get hj0 fun a3 cs3 hK3 hc3 => ?_
            obtain ⟨sq, rfl, hq⟩ := hK3
            refine ⟨sq, hc3.2.1, ?_⟩
            refine hq.get (i := 0) (x := y0) (by rw [hy0]; rfl) fun a4 cs4 hK4 hc4 => ?_
            obtain rfl := hK4
            refine ⟨_, _, hc4, (Order_ro y y0 L').use ⟨_, rfl, bcD (fun h => fin (.inr ?_) h2) fun h => skip L' hle' hs' hb' ?_⟩⟩
            · rw [hy, List.headD_cons, List.headD_cons, ej0, rt_get hj0, hy0, List.headD_cons]; exact h
            · unfold bstStep
              rw [if_neg (by simpa using hleft), if_neg hne', if_neg]
              rintro ⟨_, h1 | h1, _⟩
              · exact hbne h1
              · rw [hy, List.headD_cons, List.headD_cons, ej0, rt_get hj0, hy0, List.headD_cons] at h1; exact h h1
          · unfold bstStep
            rw [if_neg (by simpa using hleft), if_neg hne', if_neg]
            intro h1
            have := h1.1
            apply h; omega
        · intro j hj ihj L' sg hle' hs' hb' hr' hg'
          rw [whereI_succ hj, Nat.zero_add] at ihj
          apply factor_next.go11
          refine bcD (fun _ => ?_) fun h => absurd (by rw [hs'.n]; omega) h
          refine hs'.get (List.getElem?_eq_getElem hj) fun a cs hK hc => ?_
          obtain ⟨sq, rfl, hq⟩ := hK
          have hno : ((g.rules[j].left == n && decide (0 < cmn g.rules[j].right g.rules[i].right)) = false) → factor_next.c15 K n sb ((i : Nat) : Int) sg t15 t16 s ((s.n : Nat) : Int) ((i : Nat) : Int) s ((s.n : Nat) : Int) ((j : Nat) : Int) g.terms g.nons g.start s t2_0 t0 t1 t2 t3 t2_5 n sr L' := fun e => by
            apply factor_next.go15
            unfold factor_next.t15
            rw [add_one (by omega)]
            refine ihj L' sg hle' hs' hb' hr' ?_
            rw [if_neg (by rw [e]; simp), List.append_nil]; exact hg'
          refine ⟨_, _, hc, bcE (fun hl => ?_) fun hl => hno (by simp [hl])⟩
          refine (common_ro hq hr' (hr _ (List.getElem_mem hj))).use ⟨_, rfl, bcD (fun hp => ?_) fun hp => hno ?_⟩
          · have hwl : (whereI (fun q => q.left == n && decide (0 < cmn q.right g.rules[i].right)) 0 (g.rules.take j)).length ≤ 1048576 := Nat.le_trans whereI_length (by simp; omega)
            refine Own.append (R := rI) (bytes := 8) (m := 1) (ys := [((j : Nat) : Int)]) hg' hle' (Cells.cons (c := [.int .i64 ((j : Nat) : Int)]) rfl .nil) rfl (.inl (by omega)) fun s' L2 h1 h2 h3 _ _ => ?_
            apply factor_next.go15
            unfold factor_next.t15
            rw [add_one (by omega)]
            refine ihj L2 s' h1 (hs'.mono h2) (hb'.mono h2) (hr'.mono h2) ?_
            rw [if_pos (by simp [hl]; omega)]; exact h3
          · have : ¬ 0 < cmn g.rules[j].right g.rules[i].right := fun h => hp (by omega)
            simp [this]
      rw [hleft]
      exact inner 0 (Nat.zero_le _) _ _ (hle.trans hle1) (hs.mono hle1.toLeM) (hb.mono hle1.toLeM) (hr'.mono hle1.toLeM) (Own.nil' _ _ _ _)

/-- A step's value. -/
def stepV (sg sm : Sl) (st : Step) : List Value := [.slice sg.a sg.n sg.c, .int .i64 st.size, .int .i64 st.non, .int .i64 st.first, .int .i64 st.rest, .slice sm.a sm.n sm.c]

theorem bstL_ok {g : Gram} {n : Int} : ∀ {rs : List Rule} {i : Nat} {b : List Int}, (∀ r ∈ rs, r ∈ g.rules) → BestOk g n b → BestOk g n (bstL g n rs i b)
  | [], _, _, _, h => h
  | r :: rs, _, _, hr, h => bstL_ok (rs := rs) (fun x hx => hr x (List.mem_cons_of_mem _ hx)) (bstStep_ok h (hr r (List.mem_cons_self ..)))
theorem bst_ok {g : Gram} {n : Int} : BestOk g n (bst g n) := bstL_ok (fun _ h => h) (.inl rfl)

theorem bst_length {g : Gram} {n : Int} : (bst g n).length ≤ g.rules.length := by
  rcases bst_ok (g := g) (n := n) with h | ⟨r, _, _, _, h, _⟩
  · rw [h]; exact Nat.zero_le _
  · rw [h]; exact whereI_length

theorem next_spec' {L : GHeap} {g : Gram} {s : Sl} (hs : IsSl rRule L s g.rules) (hr : ∀ r ∈ g.rules, r.right.length ≤ 1048576) (hg : g.rules.length ≤ 1048576) (hn : g.nons ≤ 1048576) :
    ACalls PP factor_next.id [gramV g s] L fun v L' => Le L L' ∧ ∃ (sg sm : Sl) (st : Step) (b : Bool), v = .tuple #[.agg (List.toArray (stepV sg sm st)), .bool b] ∧ IsSl rI L' sg st.group ∧ sm = ⟨none, 0, 0⟩ ∧
      match facNext g with
      | none => b = false
      | some x => b = true ∧ st = x := by
  apply factor_next.go
  unfold factor_next.t
  have key : ∀ i, i ≤ g.nons.toNat → ∀ L', Le L L' → IsSl rRule L' s g.rules → facNext g = nxt g (g.nons.toNat - i) i →
      factor_next.c2 (fun v L' => Le L L' ∧ ∃ (sg sm : Sl) (st : Step) (b : Bool), v = .tuple #[.agg (List.toArray (stepV sg sm st)), .bool b] ∧ IsSl rI L' sg st.group ∧ sm = ⟨none, 0, 0⟩ ∧
      match facNext g with
      | none => b = false
      | some x => b = true ∧ st = x) g.nons ((i : Nat) : Int) g.terms g.nons g.start s ⟨none, 0, 0⟩ 0 0 0 0 ⟨none, 0, 0⟩ L' := by
    refine down ?_ ?_
    · intro L' hle hs' he
      apply factor_next.go2
      refine bcD (fun h => absurd h (by omega)) fun _ => ⟨hle, ⟨none, 0, 0⟩, ⟨none, 0, 0⟩, ⟨[], 0, 0, 0, 0, []⟩, false, rfl, .nil _ _ _ _, rfl, ?_⟩
      rw [he, Nat.sub_self]
      rfl
    · intro i hi ih L' hle hs' he
      rw [show g.nons.toNat - i = (g.nons.toNat - (i + 1)) + 1 by omega] at he
      simp only [nxt] at he
      apply factor_next.go2
      refine bcD (fun _ => ?_) fun h => absurd (by omega) h
      refine next_c6 (L0 := L) (n := ((i : Nat) : Int)) hr hg (fun L2 sb hle2 hs2 hb2 hnil => bcN (bcI (fun h => ?_) fun h => ?_)) 0 (Nat.zero_le _) L' ⟨none, 0, 0⟩ [] hle hs' (.nil _ _ _ _) (by simp) (.inl rfl) rfl
      · have e := hnil.1 h
        rw [add_one (by omega)]
        exact ih L2 hle2 hs2 (by rw [he, if_neg (by simp [e])])
      · have hne : bst g ((i : Nat) : Int) ≠ [] := fun e => by rw [hnil.2 e] at h; cases h
        rw [if_pos hne] at he
        refine next_c22 hs2 hb2 hne bst_ok (Nat.le_trans bst_length (by omega)) hr ⟨hle2, sb, ⟨none, 0, 0⟩, ⟨bst g ((i : Nat) : Int), sizeL g ((bst g ((i : Nat) : Int)).headD 0) (bst g ((i : Nat) : Int)) 4, g.nons, 0, 0, []⟩, true, rfl, hb2, rfl, ?_⟩
        rw [he]
        exact ⟨rfl, rfl⟩
  exact key 0 (Nat.zero_le _) L (.refl L) hs rfl
end Go.Proofs.YtekiknmhlfiemaaDoor
