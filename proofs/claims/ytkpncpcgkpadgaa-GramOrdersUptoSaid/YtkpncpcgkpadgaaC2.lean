/- A step of a proof that a law of this program holds: what its functions compute, over a ghost heap. -/
import Derived.Test.YtkpncpcgkpadgaaC1
set_option linter.all false
namespace Go.Proofs.Ytkpncpcgkpadgaa
open Go Go.Proofs.Ytkpncpcgkpadgaa.GH

/-! ### plain: the two orders agree -/
def okS (s : Sym) : Prop := 0 ≤ s.n ∧ s.n ≤ 1000000

theorem wt_eq {s : Sym} (h : okS s) : wt s = if s.term = true then s.n else 1099511627776 + s.n := by
  unfold wt; split
  · rfl
  · exact w64_in (by have := h.1; omega) (by have := h.2; omega)

theorem ordS_wt {x y : Sym} (hx : okS x) (hy : okS y) : (ordS x y = -1 ∧ wt x < wt y ∧ ¬ wt y < wt x ∧ x ≠ y) ∨ (ordS x y = 1 ∧ wt y < wt x ∧ ¬ wt x < wt y ∧ x ≠ y) ∨ (ordS x y = 0 ∧ x = y) := by
  rw [wt_eq hx, wt_eq hy]
  obtain ⟨xt, xn⟩ := x
  obtain ⟨yt, yn⟩ := y
  unfold okS at hx hy
  cases xt <;> cases yt <;> by_cases h1 : xn < yn <;> by_cases h2 : yn < xn <;> simp [ordS, cmpI, h1, h2] at hx hy ⊢ <;> omega

theorem cmpL_bef : ∀ (xs ys : List Sym), (∀ s ∈ xs, okS s) → (∀ s ∈ ys, okS s) →
    (cmpL ordS xs ys = -1 ∧ befL xs ys = true) ∨ (cmpL ordS xs ys = 1 ∧ befL xs ys = false ∧ befL ys xs = true) ∨ (cmpL ordS xs ys = 0 ∧ befL xs ys = false ∧ befL ys xs = false)
  | [], [], _, _ => by simp [cmpL, befL]
  | [], _ :: _, _, _ => by simp [cmpL, befL]
  | _ :: _, [], _, _ => by simp [cmpL, befL]
  | x :: xs, y :: ys, hx, hy => by
    have ih := cmpL_bef xs ys (fun s h => hx s (List.mem_cons_of_mem _ h)) (fun s h => hy s (List.mem_cons_of_mem _ h))
    rcases ordS_wt (hx x (List.mem_cons_self ..)) (hy y (List.mem_cons_self ..)) with ⟨e, h1, h2, h3⟩ | ⟨e, h1, h2, h3⟩ | ⟨e, h3⟩
    · left; simp [cmpL, befL, e, h1, h3]
    · right; left; simp [cmpL, befL, e, h1, h2, h3, Ne.symm h3]
    · subst h3; simpa [cmpL, befL, e] using ih

theorem cmpR_sign {p q : Rule} (hx : ∀ s ∈ p.right, okS s) (hy : ∀ s ∈ q.right, okS s) : cmpR p q = signR p q := by
  unfold cmpR signR befR
  by_cases h : p.left = q.left
  · rcases cmpL_bef _ _ hx hy with ⟨e, h1⟩ | ⟨e, h1, h2⟩ | ⟨e, h1, h2⟩ <;> simp [h, cmpI, *]
  · by_cases h1 : p.left < q.left
    · simp [h, cmpI, h1]
    · have h2 : q.left < p.left := by omega
      simp [h, Ne.symm h, cmpI, h1, h2]

theorem ordS_sign {a b : Sym} (ha : okS a) (hb : okS b) : ordS a b = signR ⟨0, [a]⟩ ⟨0, [b]⟩ := by
  have := cmpR_sign (p := ⟨0, [a]⟩) (q := ⟨0, [b]⟩) (by simpa using ha) (by simpa using hb)
  rw [← this]
  simp only [cmpR, cmpI, cmpL]
  simp

/-! ### the walk of the law -/
theorem one_sl {L : GHeap} {b : Nat} {x : Sym} : IsSl rSym (L.alloc b [.bool x.term, .int .i64 x.n] 2) ⟨some ⟨b, 0, none⟩, 1, 1⟩ [x] :=
  IsSl.of_cells (Cells.cons (R := rSym) (c := [.bool x.term, .int .i64 x.n]) rfl .nil) rfl (Nat.le_refl _) alloc_reads

theorem one_sl' {L : GHeap} {b : Nat} {x : Sym} {L' : GHeap} (h : LeM (L.alloc b [.bool x.term, .int .i64 x.n] 2) L') : IsSl rSym L' ⟨some ⟨b, 0, none⟩, 1, 1⟩ [x] := one_sl.mono h

theorem GramOrders_c8 {a b : Sym} {p q : Rule} {sp sq s1 s2 t : Sl} {L0 L : GHeap} (hp : IsSl rSym L sp p.right) (hq : IsSl rSym L sq q.right) (h1 : IsSl rSym L s1 [a]) (h2 : IsSl rSym L s2 [b])
    (ht : IsSl rSym L t (p.right ++ q.right)) (hlp : p.right.length ≤ 70368744177664) (hlq : q.right.length ≤ 70368744177664) (ha : okS a) (hb : okS b) (hle : Le L0 L) :
    ∀ (d i : Nat), (p.right ++ q.right).length - i = d → i ≤ (p.right ++ q.right).length → (∀ s ∈ (p.right ++ q.right).take i, okS s) →
    parllaw2_GramOrders.c8 (fun v L' => v = .bool true ∧ Le L0 L') parllaw2_GramOrders_1.id [] t ((t.n : Nat) : Int) ((i : Nat) : Int) a.term a.n b.term b.n p.left sp q.left sq 0 s1 0 s2 L := by
  intro d
  induction d with
  | zero =>
    intro i hd hi hall
    have hi : i = (p.right ++ q.right).length := by omega
    subst hi
    rw [List.take_length] at hall
    apply parllaw2_GramOrders.go8
    refine bcD (fun h => absurd h (by rw [ht.n]; omega)) fun _ => ?_
    refine (Order_ro a b L).use ⟨_, rfl, (sign_ro (a := ⟨0, [a]⟩) (b := ⟨0, [b]⟩) h1 h2 (by simp) (by simp)).use ⟨_, rfl, ?_⟩⟩
    refine bcE (fun _ => ?_) fun h => absurd (ordS_sign ha hb) h
    refine (gCompare_ro hp hq (by omega)).use ⟨_, rfl, (sign_ro hp hq (by omega) (by omega)).use ⟨_, rfl, ?_, hle⟩⟩
    rw [cmpR_sign (fun s h => hall s (List.mem_append_left _ h)) (fun s h => hall s (List.mem_append_right _ h))]
    simp
  | succ d ih =>
    intro i hd hi hall
    have hlt : i < (p.right ++ q.right).length := by omega
    have hlen : (p.right ++ q.right).length = p.right.length + q.right.length := List.length_append
    apply parllaw2_GramOrders.go8
    refine bcD (fun _ => ?_) fun h => absurd (by rw [ht.n]; omega) h
    refine ht.get (List.getElem?_eq_getElem hlt) fun x cs hK hr => ?_
    obtain rfl := hK
    refine ⟨_, _, hr, bcD (fun _ => parllaw2_GramOrders.go11 ⟨rfl, hle⟩) fun g1 => bcD (fun _ => parllaw2_GramOrders.go11 ⟨rfl, hle⟩) fun g2 => ?_⟩
    rw [w64_in (by omega) (by omega)]
    refine ih (i + 1) (by omega) (by omega) fun s hs => ?_
    rw [List.take_succ_eq_append_getElem hlt] at hs
    rcases List.mem_append.1 hs with hs | hs
    · exact hall s hs
    · rw [List.mem_singleton] at hs; subst hs; exact ⟨by omega, by omega⟩

theorem GramOrders_c4 {a b : Sym} {p q : Rule} {sp sq s1 s2 : Sl} {L0 L : GHeap} (hp : IsSl rSym L sp p.right) (hq : IsSl rSym L sq q.right) (h1 : IsSl rSym L s1 [a]) (h2 : IsSl rSym L s2 [b])
    (hlp : p.right.length ≤ 1048576) (hlq : q.right.length ≤ 1048576) (hle : Le L0 L) :
    parllaw2_GramOrders.c4 (fun v L' => v = .bool true ∧ Le L0 L') a.term a.n b.term b.n p.left sp q.left sq 0 s1 0 s2 L := by
  refine parllaw2_GramOrders.go4 (parllaw2_GramOrders.go5 ?_)
  refine bcD (fun _ => parllaw2_GramOrders.go6 ⟨rfl, hle⟩) fun g1 => bcD (fun _ => parllaw2_GramOrders.go6 ⟨rfl, hle⟩) fun g2 => parllaw2_GramOrders.go7 ?_
  intro b42 hu
  simp only [inL]
  have hle1 : Le L (L.alloc b42 [.slice sp.a sp.n sp.c, .slice sq.a sq.n sq.c] 2) := Le.alloc hu _ _
  have hs : IsSl (rS rSym) (L.alloc b42 [.slice sp.a sp.n sp.c, .slice sq.a sq.n sq.c] 2) ⟨some ⟨b42, 0, none⟩, 2, 2⟩ [p.right, q.right] :=
    IsSl.of_cells (Cells.cons (R := rS rSym) (c := [.slice sp.a sp.n sp.c]) ⟨sp, rfl, hp.mono hle1.toLeM⟩ (.cons (c := [.slice sq.a sq.n sq.c]) ⟨sq, rfl, hq.mono hle1.toLeM⟩ .nil)) rfl (Nat.le_refl _) alloc_reads
  refine (Concat_spec hs (by simp [totL]; omega) (by simp)).mono ?_
  rintro v L' ⟨r, rfl, hle2, hr⟩
  have hl := hle1.trans hle2
  have hok : okS a ∧ okS b := by
    simp only [mnx] at g1 g2
    unfold okS
    split at g1 <;> split at g2 <;> exact ⟨⟨by omega, by omega⟩, ⟨by omega, by omega⟩⟩
  refine ⟨r, rfl, GramOrders_c8 (hp.mono hl.toLeM) (hq.mono hl.toLeM) (h1.mono hl.toLeM) (h2.mono hl.toLeM) (by simpa using hr) (by omega) (by omega) hok.1 hok.2 (hle.trans hl) _ 0 rfl (Nat.zero_le _) (by simp)⟩

theorem GramOrders_spec {a b : Sym} {p q : Rule} {sp sq : Sl} {L : GHeap} (hp : IsSl rSym L sp p.right) (hq : IsSl rSym L sq q.right) (hlp : p.right.length ≤ 1048576) (hlq : q.right.length ≤ 1048576) :
    ACalls PP parllaw2_GramOrders.id [.agg #[.bool a.term, .int .i64 a.n], .agg #[.bool b.term, .int .i64 b.n], .agg #[.int .i64 p.left, .slice sp.a sp.n sp.c], .agg #[.int .i64 q.left, .slice sq.a sq.n sq.c]] L
      fun v L' => v = .bool true ∧ Le L L' := by
  apply parllaw2_GramOrders.go
  refine (Order_ro ⟨true, 5⟩ ⟨false, 0⟩ L).use ⟨_, rfl, bcNE (fun h => absurd (by simp [ordS]) h) fun _ => ?_⟩
  have k1 : ∀ b1 b2, L.unused b1 → (L.alloc b1 [.bool a.term, .int .i64 a.n] 2).unused b2 →
      parllaw2_GramOrders.c4 (fun v L' => v = .bool true ∧ Le L L') a.term a.n b.term b.n p.left sp q.left sq 0 ⟨some ⟨b1, 0, none⟩, 1, 1⟩ 0 ⟨some ⟨b2, 0, none⟩, 1, 1⟩ ((L.alloc b1 [.bool a.term, .int .i64 a.n] 2).alloc b2 [.bool b.term, .int .i64 b.n] 2) := by
    intro b1 b2 h1 h2
    have hl := (Le.alloc h1 [.bool a.term, .int .i64 a.n] 2).trans (Le.alloc h2 [.bool b.term, .int .i64 b.n] 2)
    exact GramOrders_c4 (hp.mono hl.toLeM) (hq.mono hl.toLeM) (one_sl' (Le.alloc h2 _ _).toLeM) one_sl hlp hlq hl
  have k2 : ∀ b1 b2, L.unused b2 → (L.alloc b2 [.bool b.term, .int .i64 b.n] 2).unused b1 →
      parllaw2_GramOrders.c4 (fun v L' => v = .bool true ∧ Le L L') a.term a.n b.term b.n p.left sp q.left sq 0 ⟨some ⟨b1, 0, none⟩, 1, 1⟩ 0 ⟨some ⟨b2, 0, none⟩, 1, 1⟩ ((L.alloc b2 [.bool b.term, .int .i64 b.n] 2).alloc b1 [.bool a.term, .int .i64 a.n] 2) := by
    intro b1 b2 h1 h2
    have hl := (Le.alloc h1 [.bool b.term, .int .i64 b.n] 2).trans (Le.alloc h2 [.bool a.term, .int .i64 a.n] 2)
    exact GramOrders_c4 (hp.mono hl.toLeM) (hq.mono hl.toLeM) one_sl (one_sl' (Le.alloc h2 _ _).toLeM) hlp hlq hl
  simp only [inL]
  repeat' first
    | exact k1 _ _ (by assumption) (by assumption)
    | exact k2 _ _ (by assumption) (by assumption)
    | apply And.intro
    | intro _ _

end Go.Proofs.Ytkpncpcgkpadgaa
