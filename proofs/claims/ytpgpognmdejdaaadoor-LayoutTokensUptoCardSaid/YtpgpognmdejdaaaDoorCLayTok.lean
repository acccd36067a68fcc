/- Package layout: Tokens. -/
import Derived.Test.YtpgpognmdejdaaaDoorCLayout
set_option linter.all false
namespace Go.Proofs.YtpgpognmdejdaaaDoor
open Go Go.Proofs.YtpgpognmdejdaaaDoor.GH

theorem PA.pop {α : Type} {f : α → Value} {M : Nat → Prop} {L L0 : GHeap} {s : Sl} {xs : List α} {x : α} (h : PA f L0 L M s (xs ++ [x])) : PA f L0 L M ⟨s.a, xs.length, s.c⟩ xs := by
  have hn := h.n
  have hc := h.c
  simp only [List.length_append, List.length_cons, List.length_nil] at hn
  refine ⟨rfl, by simp only; omega, h.unu, fun h0 => ?_, h.nil⟩
  obtain ⟨b, e1, e2, h3, h4⟩ := h.cell h0
  refine ⟨b, e1, e2, fun i y hy => h3 i y ?_, h4⟩
  rw [List.getElem?_append_left (List.getElem?_eq_some_iff.1 hy).1]; exact hy

/-- What Tokens holds: the tokens so far, the stack (the top first). -/
structure TS (L0 L : GHeap) (M : Nat → Prop) (so ss : Sl) (out : List Tok) (stk : List Int) : Prop where
  le : Le L0 (L.off M)
  out : Own L0 rTok (L.off M) so out
  st : PA (Value.int .i64) L0 L M ss stk.reverse

section
variable {L0 L : GHeap} {M : Nat → Prop} {so ss : Sl} {out : List Tok} {stk : List Int}

theorem TS.emit (h : TS L0 L M so ss out stk) (hn : out.length ≤ 1048576) {a b c : Int} {k : Sl → GHeap → Prop} (hk : ∀ so' L', TS L0 L' M so' ss (out ++ [⟨a, b, c⟩]) stk → k so' L') : appendK 3 24 L so 1 [.int .i64 a, .int .i64 b, .int .i64 c] k := by
  refine appendK_off h.st.live (k' := fun so' L1 => Le L0 L1 ∧ Own L0 rTok L1 so' (out ++ [⟨a, b, c⟩])) ?_ ?_
  · exact Own.append (R := rTok) (bytes := 24) (m := 1) (ys := [⟨a, b, c⟩]) h.out h.le tok_cells rfl (.inl (by omega)) fun so' L' g1 _ g3 _ _ => ⟨g1, g3⟩
  · intro so' L' hs _ ⟨h1, h2⟩
    exact hk so' L' ⟨h1, h2, h.st.same hs⟩

theorem TS.push (h : TS L0 L M so ss out stk) (hn : stk.length ≤ 1048576) {x : Int} {k : Sl → GHeap → Prop} (hk : ∀ ss' L' M', TS L0 L' M' so ss' out (x :: stk) → k ss' L') : appendK 1 8 L ss 1 [.int .i64 x] k := by
  refine PA.append h.st h.le (x := x) rfl (by rw [List.length_reverse]; omega) fun s' L' M' hp hl => hk s' L' M' ⟨h.le.trans hl, h.out.mono hl, by rw [List.reverse_cons]; exact hp⟩

theorem TS.top (h : TS L0 L M so ss out stk) (hn : stk.length ≤ 1048576) (hne : stk ≠ []) {k : Addr → Prop} (hk : ∀ a : Addr, L.mem (a.add (Int.toNat (w64 (((ss.n : Nat) : Int) - 1)) * 1)) = some (.int .i64 (stk.headD 0)) → k a) :
    ptrK ss.a fun a => (0 ≤ w64 (((ss.n : Nat) : Int) - 1) ∧ w64 (((ss.n : Nat) : Int) - 1) < ((ss.n : Nat) : Int)) ∧ k a := by
  have hsn := h.st.n
  rw [List.length_reverse] at hsn
  cases stk with
  | nil => exact absurd rfl hne
  | cons x r =>
    simp only [List.length_cons] at hsn hn
    have e : w64 (((ss.n : Nat) : Int) - 1) = ((r.length : Nat) : Int) := by rw [w64_in (by omega) (by omega)]; omega
    rw [e] at hk ⊢
    refine h.st.get (i := r.length) (x := x) ?_ fun a ha => hk a (by rw [Int.toNat_natCast]; exact ha)
    rw [List.reverse_cons, ← List.length_reverse, List.getElem?_concat_length]

theorem TS.pop {x : Int} {r : List Int} (h : TS L0 L M so ss out (x :: r)) (hn : r.length ≤ 1048576) : TS L0 L M so ⟨ss.a, Int.toNat (w64 (((ss.n : Nat) : Int) - 1)), ss.c⟩ out r := by
  have hsn := h.st.n
  rw [List.length_reverse, List.length_cons] at hsn
  have e : w64 (((ss.n : Nat) : Int) - 1) = ((r.length : Nat) : Int) := by rw [w64_in (by omega) (by omega)]; omega
  refine ⟨h.le, h.out, ?_⟩
  rw [e, Int.toNat_natCast]
  have hp := h.st
  rw [List.reverse_cons] at hp
  have := PA.pop hp
  rw [List.length_reverse] at this
  exact this
end

def prep (acc : List Tok) : Except Int (List Tok × List Int) → Except Int (List Tok × List Int)
  | .error e => .error e
  | .ok (o, s) => .ok (acc ++ o, s)

def prevT (l : List Tok) (i : Nat) : Option Tok := if i = 0 then none else l[i - 1]?

theorem layS_cons {b : Int → Int} {k : Ar3} {p : Option Tok} {s : List Int} {t : Tok} {r : List Tok} {acc : List Tok} {R : Except Int (List Tok × List Int)} (h : R = prep acc (layS b k p s (t :: r))) :
    (∀ e, laySt b k p t s = .error e → R = .error e) ∧ ∀ o s', laySt b k p t s = .ok (o, s') → R = prep (acc ++ o) (layS b k (some t) s' r) := by
  simp only [layS] at h
  refine ⟨fun e he => ?_, fun o s' he => ?_⟩
  · rw [he] at h; exact h
  · rw [he] at h
    rw [h]
    simp only
    cases layS b k (some t) s' r with
    | error e => rfl
    | ok y => obtain ⟨o2, s2⟩ := y; simp [prep]

def layFin (k : Ar3) (n : Int) (l : List Tok) : Except Int (List Tok × List Int) → Except Int (List Tok)
  | .error e => .error e
  | .ok (o, s) => .ok (o ++ layEnd k n l s)
theorem layOut_fin {b : Int → Int} {k : Ar3} {n : Int} {l : List Tok} : layOut b k n l = layFin k n l (layS b k none [0] l) := rfl

/-- What Tokens returns. -/
def TokPost (L : GHeap) (r : Except Int (List Tok)) (v : Value) (L' : GHeap) : Prop :=
  Le L L' ∧ ∃ (so : Sl) (e : Int), v = .tuple #[.slice so.a so.n so.c, .int .i64 e] ∧ ((e ≠ 0 ∧ r = .error e ∧ so = ⟨none, 0, 0⟩) ∨ (e = 0 ∧ ∃ out, r = .ok out ∧ IsSl rTok L' so out))

theorem Tokens_spec {L : GHeap} {text : ByteArray} {s : Sl} {l : List Tok} {k : Ar3} (hs : IsSl rTok L s l) : ACalls PP layout_Tokens.id [.string text, .slice s.a s.n s.c, ar3V k] L (TokPost L (tokR text k l)) := by
  have hn := hs.n
  apply layout_Tokens.go
  refine (Check_ro hs).use ⟨_, rfl, bcNE (fun h => ?_) fun h => ?_⟩
  · exact ⟨.refl L, ⟨none, 0, 0⟩, _, rfl, .inl ⟨h, by unfold tokR; rw [if_pos h], rfl⟩⟩
  have hok := lchk_zero h
  have hsz := hok.size
  have hln := hok.len
  have htr : tokR text k l = layOut (bg text) k text.size l := by unfold tokR; rw [if_neg (by simpa using h)]
  rw [htr]
  intro b23 hu
  simp only [inL]
  obtain ⟨hp0, hoff0⟩ := PA.new (f := Value.int .i64) (z := 0) (n := 1) rfl hu (LeM.refl L) (by omega)
  have ez : zeros 1 [Value.int .i64 0] = [.int .i64 0] := rfl
  rw [ez] at hp0 hoff0
  rw [layOut_fin]
  generalize hR : layS (bg text) k none [0] l = R
  generalize hQ : layFin k text.size l R = Q
  have bad : ∀ {e : Int} {L1 : GHeap}, e ≠ 0 → Le L L1 → R = .error e → TokPost L Q (.tuple #[.slice none 0 0, .int .i64 e]) L1 := fun he hle hr => ⟨hle, ⟨none, 0, 0⟩, _, rfl, .inl ⟨he, by rw [← hQ, hr]; rfl, rfl⟩⟩
  have fin : ∀ (out : List Tok) (stk : List Int) (so ss : Sl) (L1 : GHeap) (M : Nat → Prop), TS L L1 M so ss out stk → out.length + stk.length ≤ 4000 → stk ≠ [] → Q = .ok (out ++ List.replicate (stk.length - 1) ⟨k.b, text.size, text.size⟩) → layout_Tokens.c31 (TokPost L Q) text so ss k.a k.b k.c L1 := by
    intro out stk so ss L1 M hts hlen hne hq
    have hsn := hts.st.n
    rw [List.length_reverse] at hsn
    have hpos : 0 < stk.length := List.length_pos_iff.2 hne
    apply layout_Tokens.go31
    refine ⟨⟨by omega, by omega⟩, ?_⟩
    have key : ∀ j, j ≤ stk.length - 1 → ∀ (so : Sl) (L2 : GHeap) (out2 : List Tok), TS L L2 M so ss out2 stk → out2 = out ++ List.replicate j ⟨k.b, text.size, text.size⟩ → layout_Tokens.c32 (TokPost L Q) text so (((ss.n - 1 : Nat)) : Int) ((j : Nat) : Int) k.a k.b k.c L2 := by
      refine down ?_ ?_
      · intro so L2 out2 ht he
        apply layout_Tokens.go32
        refine bcD (fun h => absurd h (by omega)) fun _ => ?_
        exact ⟨ht.st.le ht.le, so, 0, rfl, .inr ⟨rfl, out2, by rw [hq, he], ht.out.sl.mono off_le⟩⟩
      · intro j hj ih so L2 out2 ht he
        apply layout_Tokens.go32
        refine bcD (fun _ => ?_) fun h => absurd (by omega) h
        refine ⟨⟨by omega, by omega⟩, ht.emit (by rw [he, List.length_append, List.length_replicate]; omega) fun so' L' ht' => ?_⟩
        rw [add_one (by omega)]
        exact ih so' L' _ ht' (by rw [he, List.append_assoc, ← List.replicate_succ'])
    exact key 0 (Nat.zero_le _) so L1 out hts (by simp)
  have key : ∀ i, i ≤ l.length → ∀ (out : List Tok) (stk : List Int) (so ss : Sl) (L1 : GHeap) (M : Nat → Prop), TS L L1 M so ss out stk → out.length + stk.length ≤ 4 * i + 1 → stk.getLast? = some 0 → R = prep out (layS (bg text) k (prevT l i) stk (l.drop i)) →
      layout_Tokens.c7 (TokPost L Q) text s so ss s ((s.n : Nat) : Int) ((i : Nat) : Int) k.a k.b k.c L1 := by
    refine down ?_ ?_
    · intro out stk so ss L1 M hts hlen hlast hr
      have hpos := last_pos hlast
      have hne : stk ≠ [] := by intro e; rw [e] at hpos; simp at hpos
      rw [List.drop_length] at hr
      have hr : R = .ok (out ++ [], stk) := hr
      rw [List.append_nil] at hr
      have hle : Le L L1 := hts.st.le hts.le
      have hq : Q = .ok (out ++ layEnd k text.size l stk) := by rw [← hQ, hr]; rfl
      apply layout_Tokens.go7
      refine bcD (fun h => absurd h (by omega)) fun _ => bcD (fun h => ?_) fun h => ?_
      · have hx := List.getElem?_eq_getElem (l := l) (i := l.length - 1) (by omega)
        have hlastl : l.getLast? = some l[l.length - 1] := by rw [List.getLast?_eq_getElem?, hx]
        generalize l[l.length - 1] = q at *
        have e : w64 (((s.n : Nat) : Int) - 1) = ((l.length - 1 : Nat) : Int) := by rw [w64_in (by omega) (by omega)]; omega
        rw [e]
        refine ⟨⟨by omega, by omega⟩, (hs.mono hle.toLeM).get hx fun a cs hK hc => (hs.mono hle.toLeM).get hx fun a' cs' hK' hc' => ?_⟩
        obtain rfl := hK
        obtain rfl := hK'
        have hm := hc.2.2.1
        have hm' := hc'.2.2.1
        have leaf : appendK 3 24 L1 so 1 [.int .i64 k.c, .int .i64 q.to, .int .i64 q.to] fun x157 L' => layout_Tokens.c31 (TokPost L Q) text x157 ss k.a k.b k.c L' := by
          refine hts.emit (by omega) fun so' L' ht => ?_
          refine fin _ stk so' ss L' M ht (by simp only [List.length_append, List.length_cons, List.length_nil]; omega) hne ?_
          rw [hq]; unfold layEnd; rw [hlastl, List.append_assoc]; rfl
        exact ⟨⟨_, hm, _, hm', leaf⟩, _, hm', _, hm, leaf⟩
      · refine fin out stk so ss L1 M hts (by omega) hne ?_
        rw [hq]; unfold layEnd
        have : l = [] := List.eq_nil_of_length_eq_zero (by omega)
        rw [this]; simp [layEndO]
    · intro i hi ih out stk so ss L1 M hts hlen hlast hr
      have hpos := last_pos hlast
      have hne : stk ≠ [] := by intro e; rw [e] at hpos; simp at hpos
      rw [List.drop_eq_getElem_cons hi] at hr
      obtain ⟨herr, hstep⟩ := layS_cons hr
      clear hr
      have hx := List.getElem?_eq_getElem hi
      have hprev : prevT l (i + 1) = some l[i] := by unfold prevT; rw [if_neg (by omega)]; simpa using hx
      have htok := hok.toks _ (List.getElem_mem hi)
      generalize l[i] = t at *
      have hle : Le L L1 := hts.st.le hts.le
      obtain ⟨t1, t2, t3, _⟩ := htok
      have hbg := bg_le text t.fr
      have hbg0 : 0 ≤ bg text t.fr := by unfold bg; rw [if_neg (by omega)]; omega
      have tok : ∀ (out' : List Tok) (stk' : List Int) (so ss : Sl) (L1 : GHeap) (M : Nat → Prop), TS L L1 M so ss out' stk' → out'.length + stk'.length + 1 ≤ 4 * (i + 1) + 1 → stk'.getLast? = some 0 → R = prep (out' ++ [t]) (layS (bg text) k (some t) stk' (l.drop (i + 1))) →
          layout_Tokens.c26 (TokPost L Q) text s so ss s ((s.n : Nat) : Int) ((i : Nat) : Int) k.a k.b k.c t.kind t.fr t.to L1 := by
        intro out' stk' so ss L1 M ht hlen' hlast' hr
        apply layout_Tokens.go26
        refine ht.emit (by omega) fun so' L' ht' => ?_
        apply layout_Tokens.go27
        unfold layout_Tokens.t27
        rw [add_one (by omega)]
        exact ih _ stk' so' ss L' M ht' (by simp only [List.length_append, List.length_cons, List.length_nil]; omega) hlast' (by rw [hprev]; exact hr)
      -- the dedents
      have ded : ∀ (stk' : List Int) (out' : List Tok) (so ss : Sl) (L1 : GHeap) (M : Nat → Prop), TS L L1 M so ss out' stk' → out'.length + stk'.length + 1 ≤ 4 * (i + 1) + 1 → stk'.getLast? = some 0 →
          ((pops (t.fr - bg text t.fr) stk').headD 0 ≠ t.fr - bg text t.fr → R = .error 3) →
          ((pops (t.fr - bg text t.fr) stk').headD 0 = t.fr - bg text t.fr → R = prep (out' ++ List.replicate (npops (t.fr - bg text t.fr) stk') ⟨k.b, t.fr, t.fr⟩ ++ [t]) (layS (bg text) k (some t) (pops (t.fr - bg text t.fr) stk') (l.drop (i + 1)))) →
          layout_Tokens.c21 (TokPost L Q) text s so ss (t.fr - bg text t.fr) s ((s.n : Nat) : Int) ((i : Nat) : Int) k.a k.b k.c t.kind t.fr t.to L1 := by
        intro stk'
        induction stk' with
        | nil => intro _ _ _ _ _ _ _ h; simp at h
        | cons x r ihr =>
          intro out' so ss L1 M ht hlen' hlast' hR1 hR2
          simp only [List.length_cons] at hlen'
          apply layout_Tokens.go21
          refine ht.top (by simp only [List.length_cons]; omega) (by simp) fun a ha => ⟨_, ha, bcD (fun hlt => ?_) fun hlt => ?_⟩
          · have hlt : t.fr - bg text t.fr < x := hlt
            have hr' : r.getLast? = some 0 := by
              cases r with
              | nil => simp at hlast'; omega
              | cons y r => simpa using hlast'
            have hsn := ht.st.n
            rw [List.length_reverse, List.length_cons] at hsn
            have hsc := ht.st.c
            refine ⟨⟨by rw [w64_in (by omega) (by omega)]; omega, by rw [w64_in (by omega) (by omega)]; omega⟩, ⟨by omega, by omega⟩, ht.emit (by omega) fun so' L' ht' => ?_⟩
            have e1 : pops (t.fr - bg text t.fr) (x :: r) = pops (t.fr - bg text t.fr) r := by conv => lhs; unfold pops; rw [if_pos hlt]
            have e2 : npops (t.fr - bg text t.fr) (x :: r) = npops (t.fr - bg text t.fr) r + 1 := by conv => lhs; unfold npops; rw [if_pos hlt]
            rw [e1] at hR1 hR2
            rw [e2] at hR2
            refine ihr _ so' _ L' M (ht'.pop (by omega)) (by simp only [List.length_append, List.length_cons, List.length_nil]; omega) hr' hR1 fun h => ?_
            rw [hR2 h, List.replicate_succ]
            simp
          · have hlt : ¬ t.fr - bg text t.fr < x := hlt
            have e1 : pops (t.fr - bg text t.fr) (x :: r) = x :: r := by unfold pops; rw [if_neg hlt]
            have e2 : npops (t.fr - bg text t.fr) (x :: r) = 0 := by unfold npops; rw [if_neg hlt]
            rw [e1] at hR1 hR2
            rw [e2] at hR2
            refine ht.top (by simp only [List.length_cons]; omega) (by simp) fun a ha => ⟨_, ha, bcNE (fun hne' => ?_) fun heq => ?_⟩
            · exact bad (by decide) (ht.st.le ht.le) (hR1 (fun e => hne' e.symm))
            · exact tok out' (x :: r) so ss L1 M ht (by simp only [List.length_cons]; omega) hlast' (by have := hR2 heq.symm; simpa using this)
      -- the beginning of a line
      have head : layNew (bg text) (prevT l i) t → layout_Tokens.c11 (TokPost L Q) text s so ss ((i : Nat) : Int) (bg text t.fr) s ((s.n : Nat) : Int) ((i : Nat) : Int) k.a k.b k.c t.kind t.fr t.to L1 := by
        intro hnew
        have est : laySt (bg text) k (prevT l i) t stk = layAdd t (layHead (bg text) k (prevT l i) t stk) := by unfold laySt; rw [if_pos hnew]
        have col : ∀ (o : List Tok) (so : Sl) (L1 : GHeap), TS L L1 M so ss (out ++ o) stk → o.length ≤ 1 → o = layEndO k (prevT l i) → layout_Tokens.c13 (TokPost L Q) text s so ss ((i : Nat) : Int) (bg text t.fr) s ((s.n : Nat) : Int) ((i : Nat) : Int) k.a k.b k.c t.kind t.fr t.to L1 := by
          intro o so L1 ht ho1 ho
          apply layout_Tokens.go13
          unfold layout_Tokens.t13
          rw [w64_in (by omega) (by omega)]
          apply layout_Tokens.go14
          refine ht.top (by omega) hne fun a ha => ⟨_, ha, bcD (fun hlt => ?_) fun hlt => ?_⟩
          · have hlt : stk.headD 0 < t.fr - bg text t.fr := hlt
            apply layout_Tokens.go15
            refine bcE (fun h0 => ?_) fun h0 => ?_
            · apply layout_Tokens.go16
              refine bad (by decide) (ht.st.le ht.le) (herr 3 ?_)
              rw [est]; unfold layHead
              have : prevT l i = none := by unfold prevT; rw [if_pos (by omega)]
              rw [if_pos hlt, if_pos this]; rfl
            · have hp : prevT l i ≠ none := by
                unfold prevT; rw [if_neg (by omega), List.getElem?_eq_getElem (by omega)]; simp
              have hsn := ht.st.n
              rw [List.length_reverse] at hsn
              apply layout_Tokens.go17
              refine bcD (fun h20 => ?_) fun h20 => ?_
              · apply layout_Tokens.go18
                refine bad (by decide) (ht.st.le ht.le) (herr 11 ?_)
                rw [est]; unfold layHead
                rw [if_pos hlt, if_neg hp, if_pos (by omega)]; rfl
              · apply layout_Tokens.go19
                refine ht.push (by omega) fun ss' L' M' ht' => ?_
                apply layout_Tokens.go20
                refine ⟨⟨by omega, by omega⟩, ht'.emit (by simp only [List.length_append]; omega) fun so' L2 ht2 => ?_⟩
                have hst : laySt (bg text) k (prevT l i) t stk = .ok (o ++ [⟨k.a, t.fr, t.fr⟩] ++ [t], (t.fr - bg text t.fr) :: stk) := by
                  rw [est]; unfold layHead
                  rw [if_pos hlt, if_neg hp, if_neg (by omega), ← ho]; rfl
                have hR := hstep _ _ hst
                have e1 : pops (t.fr - bg text t.fr) ((t.fr - bg text t.fr) :: stk) = (t.fr - bg text t.fr) :: stk := by unfold pops; rw [if_neg (by omega)]
                have e2 : npops (t.fr - bg text t.fr) ((t.fr - bg text t.fr) :: stk) = 0 := by unfold npops; rw [if_neg (by omega)]
                refine ded ((t.fr - bg text t.fr) :: stk) _ so' ss' L2 M' ht2 (by simp only [List.length_append, List.length_cons, List.length_nil]; omega) ?_ (fun h => ?_) fun _ => ?_
                · cases stk with
                  | nil => exact absurd rfl hne
                  | cons y r => simpa using hlast
                · rw [e1] at h; exact absurd rfl h
                · rw [hR, e1, e2]; simp
          · have hlt : ¬ stk.headD 0 < t.fr - bg text t.fr := hlt
            refine ded stk _ so ss L1 M ht (by simp only [List.length_append]; omega) hlast (fun h => herr 3 ?_) fun h => ?_
            · rw [est]; unfold layHead
              rw [if_neg hlt, if_pos h]; rfl
            · have hst : laySt (bg text) k (prevT l i) t stk = .ok (o ++ List.replicate (npops (t.fr - bg text t.fr) stk) ⟨k.b, t.fr, t.fr⟩ ++ [t], pops (t.fr - bg text t.fr) stk) := by
                rw [est]; unfold layHead
                rw [if_neg hlt, if_neg (fun h' => h' h), ← ho]; rfl
              rw [hstep _ _ hst]; simp
        apply layout_Tokens.go11
        refine bcD (fun h0 => ?_) fun h0 => ?_
        · have hxp := List.getElem?_eq_getElem (l := l) (i := i - 1) (by omega)
          have hpv : prevT l i = some l[i - 1] := by unfold prevT; rw [if_neg (by omega), hxp]
          generalize l[i - 1] = q at *
          have e : w64 (((i : Nat) : Int) - 1) = ((i - 1 : Nat) : Int) := by rw [w64_in (by omega) (by omega)]; omega
          apply layout_Tokens.go12
          unfold layout_Tokens.t12
          rw [e]
          refine ⟨⟨by omega, by omega⟩, (hs.mono hle.toLeM).get hxp fun a cs hK hc => (hs.mono hle.toLeM).get hxp fun a' cs' hK' hc' => ?_⟩
          obtain rfl := hK
          obtain rfl := hK'
          have hm := hc.2.2.1
          have hm' := hc'.2.2.1
          have leaf : appendK 3 24 L1 so 1 [.int .i64 k.c, .int .i64 q.to, .int .i64 q.to] fun x68 L' => layout_Tokens.c13 (TokPost L Q) text s x68 ss ((i : Nat) : Int) (bg text t.fr) s ((s.n : Nat) : Int) ((i : Nat) : Int) k.a k.b k.c t.kind t.fr t.to L' := by
            refine hts.emit (by omega) fun so' L' ht => ?_
            exact col [⟨k.c, q.to, q.to⟩] so' L' ht (by simp) (by rw [hpv]; rfl)
          exact ⟨⟨_, hm, _, hm', leaf⟩, _, hm', _, hm, leaf⟩
        · have : prevT l i = none := by unfold prevT; rw [if_pos (by omega)]
          exact col [] so L1 (by simpa using hts) (by simp) (by rw [this]; rfl)
      apply layout_Tokens.go7
      refine bcD (fun _ => ?_) fun h => absurd (by omega) h
      refine (hs.mono hle.toLeM).get hx fun a cs hK hc => ?_
      obtain rfl := hK
      refine ⟨_, _, _, hc, (begin_ro (by omega) t1 (by omega)).use ⟨_, rfl, bcE (fun h0 => ?_) fun h0 => ?_⟩⟩
      · refine head ?_
        have : prevT l i = none := by unfold prevT; rw [if_pos (by omega)]
        rw [this]; trivial
      · have hxp := List.getElem?_eq_getElem (l := l) (i := i - 1) (by omega)
        have hpv : prevT l i = some l[i - 1] := by unfold prevT; rw [if_neg (by omega), hxp]
        have hqt := hok.toks _ (List.getElem_mem (l := l) (n := i - 1) (by omega))
        generalize l[i - 1] = q at *
        have e : w64 (((i : Nat) : Int) - 1) = ((i - 1 : Nat) : Int) := by rw [w64_in (by omega) (by omega)]; omega
        rw [e]
        refine (hs.mono hle.toLeM).get hxp fun a' cs' hK' hc' => ?_
        obtain rfl := hK'
        refine ⟨_, hc'.2.1, (begin_ro (by omega) hqt.1 (by omega)).use ⟨_, rfl, bcNE (fun hne' => ?_) fun heq => ?_⟩⟩
        · refine head ?_
          rw [hpv]; exact hne'
        · have hst : laySt (bg text) k (prevT l i) t stk = .ok ([t], stk) := by
            unfold laySt
            rw [if_neg]
            rw [hpv]
            exact fun h => h heq
          exact tok out stk so ss L1 M hts (by omega) hlast (hstep _ _ hst)
  refine key 0 (Nat.zero_le _) [] [0] ⟨none, 0, 0⟩ ⟨some ⟨b23, 0, none⟩, 1, 1⟩ _ (· = b23) ⟨by rw [hoff0]; exact .refl L, .nil _ _ _, hp0⟩ (by simp) rfl ?_
  rw [← hR]
  show _ = prep [] (layS (bg text) k none [0] l)
  cases layS (bg text) k none [0] l with
  | error e => rfl
  | ok y => rfl
end Go.Proofs.YtpgpognmdejdaaaDoor
