/- The rows of tokens: the reference's layout tokens are those of layout.Tokens. -/
import Derived.Test.YtpgpognmdejdaaaDoorCLayRefL
set_option linter.all false
namespace Go.Proofs.YtpgpognmdejdaaaDoor
open Go Go.Proofs.YtpgpognmdejdaaaDoor.GH

theorem lchkL_inc {n : Int} {k : Ar3} : ∀ {l : List Tok} {a : Int}, 0 ≤ a → lchkL n k a l = 0 → l.Pairwise fun x y => x.fr < y.fr
  | [], _, _, _ => .nil
  | x :: r, a, ha, h => by
    have hx := lchkL_zero ha h x (List.mem_cons_self ..)
    simp only [lchkL] at h
    split at h
    · cases h
    · split at h
      · cases h
      · split at h
        · cases h
        · split at h
          · cases h
          · rw [List.pairwise_cons]
            refine ⟨fun y hy => ?_, lchkL_inc (by omega) h⟩
            have := lchkL_zero (by omega) h y hy
            omega
theorem lchk_inc {n : Nat} {k : Ar3} {l : List Tok} (h : lchk n k l = 0) : l.Pairwise fun x y => x.fr < y.fr := by
  unfold lchk at h
  split at h
  · cases h
  · split at h
    · cases h
    · split at h
      · cases h
      · exact lchkL_inc (Int.le_refl 0) h

/-! ### lines -/
theorem bgn_run {t : ByteArray} {a : Nat} (h0 : a = 0 ∨ t[a - 1]! = 10) : ∀ n, (∀ i, a ≤ i → i < a + n → t[i]! ≠ 10) → bgn t (a + n) = a
  | 0, _ => by
    rcases h0 with rfl | h
    · rfl
    · cases a with
      | zero => rfl
      | succ a => show bgn t (a + 1) = a + 1; unfold bgn; rw [if_pos (by simpa using h)]
  | n + 1, h => by
    show bgn t (a + n + 1) = a
    unfold bgn
    rw [if_neg (h (a + n) (by omega) (by omega))]
    exact bgn_run h0 n fun i h1 h2 => h i h1 (by omega)

def Lns (t : ByteArray) : Int → List Nat → Prop
  | _, [] => True
  | a, n :: ns => (∀ x : Int, a ≤ x → x ≤ a + n → bg t x = a) ∧ Lns t (a + n + 1) ns

def endL (ns : List Nat) : Nat := (ns.map fun n => n + 1).sum

theorem line_bg {t : ByteArray} {pre u rest : List UInt8} (e : bl t = pre ++ (u ++ rest)) (h10 : 10 ∉ u) (hp : pre = [] ∨ pre.getLast? = some 10) (x : Int) (h1 : (pre.length : Int) ≤ x) (h2 : x ≤ (pre.length : Int) + (u.length : Nat)) : bg t x = (pre.length : Int) := by
  obtain ⟨n, rfl⟩ : ∃ n : Nat, x = ((pre.length + n : Nat) : Int) := ⟨(x - pre.length).toNat, by omega⟩
  rw [bg_nat]
  have hsz : t.size = pre.length + (u.length + rest.length) := by rw [← bl_len, e]; simp
  rw [bgn_run]
  · rcases hp with rfl | hp
    · exact .inl rfl
    · right
      have hpos : 0 < pre.length := by
        rcases Nat.eq_zero_or_pos pre.length with h | h
        · rw [List.eq_nil_of_length_eq_zero h] at hp; simp at hp
        · exact h
      rw [bl_get (by omega)]
      have : (bl t)[pre.length - 1]? = some 10 := by
        rw [e, List.getElem?_append_left (by omega), ← List.getLast?_eq_getElem?]; exact hp
      rw [List.getElem?_eq_getElem (by rw [bl_len]; omega)] at this
      exact Option.some.inj this
  · intro i hi1 hi2 h
    rw [bl_get (by omega)] at h
    have : (bl t)[i]? = u[i - pre.length]? := by
      rw [e, List.getElem?_append_right hi1, List.getElem?_append_left (by omega)]
    rw [List.getElem?_eq_getElem (by rw [bl_len]; omega), h] at this
    exact h10 (List.mem_of_getElem? this.symm)

theorem lns_of {t : ByteArray} : ∀ (m : Nat) (pre rest : List UInt8), rest.length ≤ m → bl t = pre ++ rest → (pre = [] ∨ pre.getLast? = some 10) → Lns t (pre.length : Int) ((linesL rest).map List.length) ∧ endL ((linesL rest).map List.length) = rest.length + 1 := by
  intro m
  induction m with
  | zero =>
    intro pre rest hm e hp
    have : rest = [] := List.eq_nil_of_length_eq_zero (by omega)
    subst this
    exact ⟨⟨fun x h1 h2 => line_bg (u := []) (rest := []) (by simpa using e) (by simp) hp x h1 h2, trivial⟩, rfl⟩
  | succ m ih =>
    intro pre rest hm e hp
    rcases Int.lt_or_le (idxB 10 rest) 0 with h | h
    · rw [linesL_one (idxB_none h)]
      exact ⟨⟨fun x h1 h2 => line_bg (u := rest) (rest := []) (by simpa using e) (idxB_none h) hp x h1 h2, trivial⟩, by simp [endL]⟩
    · obtain ⟨j, _, hj, hnot, hcut⟩ := idxB_cut h
      have e' : bl t = (pre ++ rest.take j ++ [10]) ++ rest.drop (j + 1) := by
        rw [e]; conv => lhs; rw [hcut]
        simp
      have := ih (pre ++ rest.take j ++ [10]) (rest.drop (j + 1)) (by rw [List.length_drop]; omega) e' (.inr (by simp))
      have hl : linesL rest = rest.take j :: linesL (rest.drop (j + 1)) := by
        conv => lhs; rw [hcut]
        exact linesL_cut _ _ hnot
      rw [hl]
      have hlen : (rest.take j).length = j := by rw [List.length_take]; omega
      refine ⟨⟨fun x h1 h2 => line_bg (u := rest.take j) (rest := 10 :: rest.drop (j + 1)) (by rw [e]; conv => lhs; rw [hcut]) hnot hp x h1 h2, ?_⟩, ?_⟩
      · have h1 := this.1
        have ea : (((pre ++ rest.take j ++ [10]).length : Nat) : Int) = (pre.length : Int) + ((rest.take j).length : Nat) + 1 := by simp only [List.length_append, List.length_cons, List.length_nil]; omega
        rw [ea] at h1; exact h1
      · have h2 := this.2
        unfold endL at h2 ⊢
        rw [List.map_cons, List.map_cons, List.sum_cons, h2, List.length_drop, hlen]; omega

/-! ### rows -/
theorem split_at (m : Int) : ∀ {l : List Tok}, (l.Pairwise fun x y => x.fr < y.fr) → l = (l.filter fun t => decide (t.fr ≤ m)) ++ l.filter fun t => !decide (t.fr ≤ m)
  | [], _ => rfl
  | x :: l, h => by
    have h' := List.pairwise_cons.1 h
    by_cases hx : x.fr ≤ m
    · rw [List.filter_cons_of_pos (by simpa using hx), List.filter_cons_of_neg (by simpa using hx), List.cons_append, ← split_at m h'.2]
    · rw [List.filter_cons_of_neg (by simpa using hx), List.filter_cons_of_pos (by simpa using hx)]
      have e1 : l.filter (fun t => decide (t.fr ≤ m)) = [] := by
        rw [List.filter_eq_nil_iff]; intro y hy; have := h'.1 y hy; simp; omega
      have e2 : l.filter (fun t => !decide (t.fr ≤ m)) = l := by
        rw [List.filter_eq_self]; intro y hy; have := h'.1 y hy; simp; omega
      rw [e1, e2]; rfl

theorem rowsL_tail : ∀ (ns : List Nat) {d l : List Tok} {a : Int}, (∀ t ∈ d, t.fr < a) → rowsL (d ++ l) a ns = rowsL l a ns
  | [], _, _, _, _ => rfl
  | n :: ns, d, l, a, h => by
    have e : mineR (d ++ l) a n = mineR l a n := by
      unfold mineR
      rw [List.filter_append]
      have : d.filter (fun t => decide (a ≤ t.fr) && decide (t.fr ≤ a + n)) = [] := by
        rw [List.filter_eq_nil_iff]; intro y hy; have := h y hy; simp; omega
      rw [this]; rfl
    unfold rowsL
    rw [e, rowsL_tail ns fun t ht => by have := h t ht; omega]

def revR : Except Int (List Tok × List Int) → Except Int (List Tok × List Int)
  | .error e => .error e
  | .ok (o, s) => .ok (o, s.reverse)
theorem revR_prep {a : List Tok} (R : Except Int (List Tok × List Int)) : revR (prep a R) = prep a (revR R) := by
  cases R with
  | error e => rfl
  | ok y => obtain ⟨o, s⟩ := y; rfl
theorem prep_prep {a b : List Tok} (R : Except Int (List Tok × List Int)) : prep a (prep b R) = prep (a ++ b) R := by
  cases R with
  | error e => rfl
  | ok y => obtain ⟨o, s⟩ := y; simp [prep]
theorem prep_nil (R : Except Int (List Tok × List Int)) : prep [] R = R := by
  cases R with
  | error e => rfl
  | ok y => obtain ⟨o, s⟩ := y; rfl

theorem layS_err {b : Int → Int} {k : Ar3} {p : Option Tok} {s : List Int} {t : Tok} {r : List Tok} {e : Int} (h : laySt b k p t s = .error e) : layS b k p s (t :: r) = .error e :=
  (layS_cons (acc := []) (prep_nil _).symm).1 e h
theorem layS_ok {b : Int → Int} {k : Ar3} {p : Option Tok} {s s' : List Int} {t : Tok} {r o : List Tok} (h : laySt b k p t s = .ok (o, s')) : layS b k p s (t :: r) = prep o (layS b k (some t) s' r) :=
  (layS_cons (acc := []) (prep_nil _).symm).2 o s' h

theorem layS_run {b : Int → Int} {k : Ar3} {s : List Int} {l : List Tok} : ∀ (r : List Tok) (q : Tok), (∀ x ∈ r, b x.fr = b q.fr) → layS b k (some q) s (r ++ l) = prep r (layS b k (q :: r).getLast? s l)
  | [], q, _ => (prep_nil _).symm
  | x :: r, q, h => by
    have hx := h x (List.mem_cons_self ..)
    have hn : ¬ layNew b (some q) x := fun h' => h' hx.symm
    rw [List.cons_append, layS_ok (o := [x]) (s' := s) (by unfold laySt; rw [if_neg hn]), layS_run r x fun y hy => by rw [h y (List.mem_cons_of_mem _ hy), hx], prep_prep, List.getLast?_cons_cons]
    rfl

theorem lay_rows {text : ByteArray} {k : Ar3} : ∀ (ns : List Nat) (a : Int) (l : List Tok) (p : Option Tok) (cs : List Int), 0 ≤ a → Lns text a ns → a + (endL ns : Nat) ≤ 4001 → (l.Pairwise fun x y => x.fr < y.fr) → (∀ t ∈ l, a ≤ t.fr ∧ t.fr < a + (endL ns : Nat)) →
    (∀ q, p = some q → bg text q.fr < a) → (p = none → cs = []) → (∀ c ∈ cs, 0 ≤ c ∧ c < 1073741824) → refS k p (arF cs) cs (rowsL l a ns) = revR (layS (bg text) k p (stk cs) l)
  | [], a, l, p, cs, ha, _, _, _, hl, _, _, hcs => by
    have : l = [] := by
      cases l with
      | nil => rfl
      | cons t l => have := hl t (List.mem_cons_self ..); simp [endL] at this; omega
    subst this
    rw [arF_stk hcs]; rfl
  | n :: ns, a, l, p, cs, ha, hlns, hend, hsort, hl, hp, hpc, hcs => by
    have hee : endL (n :: ns) = n + 1 + endL ns := by simp [endL]
    have hm : mineR l a n = l.filter fun t => decide (t.fr ≤ a + n) := List.filter_congr fun t ht => by have := (hl t ht).1; simp [this]
    have hsp := split_at (a + n) hsort
    rw [← hm] at hsp
    generalize hl2 : (l.filter fun t => !decide (t.fr ≤ a + n)) = l2 at hsp
    have h2 : ∀ t ∈ l2, a + n < t.fr ∧ t.fr < a + (endL (n :: ns) : Nat) := fun t ht => by
      rw [← hl2, List.mem_filter] at ht
      have := hl t ht.1
      have h' := ht.2
      simp at h'
      exact ⟨h', this.2⟩
    have h1 : ∀ t ∈ mineR l a n, a ≤ t.fr ∧ t.fr ≤ a + n := fun t ht => by
      unfold mineR at ht
      rw [List.mem_filter] at ht
      simpa using ht.2
    have hs2 : l2.Pairwise fun x y => x.fr < y.fr := by rw [← hl2]; exact hsort.filter _
    have ih := fun p' cs' h1 h2' h3 => lay_rows (text := text) (k := k) ns (a + n + 1) l2 p' cs' (by omega) hlns.2 (by rw [hee] at hend; omega) hs2 (fun t ht => by have := h2 t ht; rw [hee] at this; omega) h1 h2' h3
    have htail : rowsL l (a + n + 1) ns = rowsL l2 (a + n + 1) ns := by
      conv => lhs; rw [hsp]
      exact rowsL_tail ns fun t ht => by have := h1 t ht; omega
    unfold rowsL
    rw [htail]
    cases hmine : mineR l a n with
    | nil =>
      rw [hmine] at hsp
      rw [List.nil_append] at hsp
      show refS k p (arF cs) cs ([] ++ _) = _
      rw [List.nil_append, hsp]
      exact ih p cs (fun q hq => by have := hp q hq; omega) hpc hcs
    | cons t r =>
      rw [hmine] at hsp h1
      have ht := h1 t (List.mem_cons_self ..)
      have hbg : ∀ x ∈ t :: r, bg text x.fr = a := fun x hx => hlns.1 x.fr (h1 x hx).1 (h1 x hx).2
      have hbt := hbg t (List.mem_cons_self ..)
      have hc0 : 0 ≤ t.fr - a ∧ t.fr - a < 1073741824 := by rw [hee] at hend; omega
      have hcs' : ∀ c ∈ (t.fr - a) :: cs, 0 ≤ c ∧ c < 1073741824 := fun c hc => by
        rcases List.mem_cons.1 hc with rfl | hc
        · exact hc0
        · exact hcs c hc
      have hd := stk_dec (cs := cs) fun c hc => (hcs c hc).1
      have hnew : layNew (bg text) p t := by
        unfold layNew
        cases p with
        | none => trivial
        | some q => have := hp q rfl; show bg text q.fr ≠ _; rw [hbt]; omega
      rw [hsp]
      show refS k p (arF cs) cs ((t.fr - a, t :: r) :: ([] ++ rowsL l2 (a + n + 1) ns)) = _
      rw [List.nil_append]
      unfold refS
      rw [arF_stk hcs, arF_stk hcs', show frOf (t :: r) = t.fr from rfl, List.cons_append]
      have hgl : ∀ q, (t :: r).getLast? = some q → bg text q.fr < a + n + 1 := fun q hq => by
        rw [hbg q (List.mem_of_getLast? hq)]; omega
      have hgn : (t :: r).getLast? = none → (t.fr - a) :: cs = [] := fun h => by simp at h
      have ih' := ih (t :: r).getLast? ((t.fr - a) :: cs) hgl hgn hcs'
      rw [arF_stk hcs'] at ih'
      have hrun := layS_run (b := bg text) (k := k) (s := stk ((t.fr - a) :: cs)) (l := l2) r t fun x hx => by rw [hbg x (List.mem_cons_of_mem _ hx), hbt]
      have hlst : (stk cs).reverse.getLastD 0 = (stk cs).headD 0 := by rw [List.getLastD_eq_getLast?, List.getLast?_reverse, List.headD_eq_head?_getD]
      have hst : laySt (bg text) k p t (stk cs) = layAdd t (layHead (bg text) k p t (stk cs)) := by unfold laySt; rw [if_pos hnew]
      have good : ∀ h : List Tok, refHead k p (stk cs).reverse (stk ((t.fr - a) :: cs)).reverse (t.fr - a) t.fr = .ok h → layHead (bg text) k p t (stk cs) = .ok (layEndO k p ++ h, stk ((t.fr - a) :: cs)) →
          ((refHead k p (stk cs).reverse (stk ((t.fr - a) :: cs)).reverse (t.fr - a) t.fr).bind fun h => prep (layEndO k p ++ h ++ (t :: r)) (refS k (t :: r).getLast? (stk ((t.fr - a) :: cs)).reverse ((t.fr - a) :: cs) (rowsL l2 (a + n + 1) ns))) = revR (layS (bg text) k p (stk cs) (t :: (r ++ l2))) := by
        intro h e1 e2
        rw [e1, layS_ok (o := layEndO k p ++ h ++ [t]) (s' := stk ((t.fr - a) :: cs)) (by rw [hst, e2]; rfl), hrun, prep_prep, revR_prep, ← ih']
        show prep _ _ = _
        congr 1
        simp
      have bad : ∀ e : Int, refHead k p (stk cs).reverse (stk ((t.fr - a) :: cs)).reverse (t.fr - a) t.fr = .error e → layHead (bg text) k p t (stk cs) = .error e →
          ((refHead k p (stk cs).reverse (stk ((t.fr - a) :: cs)).reverse (t.fr - a) t.fr).bind fun h => prep (layEndO k p ++ h ++ (t :: r)) (refS k (t :: r).getLast? (stk ((t.fr - a) :: cs)).reverse ((t.fr - a) :: cs) (rowsL l2 (a + n + 1) ns))) = revR (layS (bg text) k p (stk cs) (t :: (r ++ l2))) := by
        intro e e1 e2
        rw [e1, layS_err (e := e) (by rw [hst, e2]; rfl)]
        rfl
      by_cases hlt : (stk cs).headD 0 < t.fr - a
      · by_cases hpn : p = none
        · exact bad 3 (by unfold refHead; rw [hlst, if_pos hlt, if_pos hpn]) (by unfold layHead; rw [hbt, if_pos hlt, if_pos hpn])
        · by_cases h20 : 20 < (stk cs).length
          · exact bad 11 (by unfold refHead; rw [hlst, if_pos hlt, if_neg hpn, if_pos (by rw [List.length_reverse]; exact h20)]) (by unfold layHead; rw [hbt, if_pos hlt, if_neg hpn, if_pos h20])
          · refine good [⟨k.a, t.fr, t.fr⟩] (by unfold refHead; rw [hlst, if_pos hlt, if_neg hpn, if_neg (by rw [List.length_reverse]; exact h20)]) ?_
            unfold layHead
            rw [hbt, if_pos hlt, if_neg hpn, if_neg h20]
            have : stk ((t.fr - a) :: cs) = (t.fr - a) :: stk cs := by
              show _ :: (stk cs).dropWhile _ = _
              rw [dw_all hlt]
            rw [this]
      · have hpm := pops_mem (c := t.fr - a) hc0.1 hd.dec hd.last
        by_cases hmem : t.fr - a ∈ stk cs
        · have e1 := hpm.2 hmem
          have e2 : stk ((t.fr - a) :: cs) = pops (t.fr - a) (stk cs) := e1.symm
          refine good (List.replicate (npops (t.fr - a) (stk cs)) ⟨k.b, t.fr, t.fr⟩) ?_ ?_
          · unfold refHead
            rw [hlst, if_neg hlt, if_neg (by simpa using hmem), e2, List.length_reverse, List.length_reverse]
            have := pops_len (t.fr - a) (stk cs)
            rw [show (stk cs).length - (pops (t.fr - a) (stk cs)).length = npops (t.fr - a) (stk cs) by omega]
          · unfold layHead
            rw [hbt, if_neg hlt, if_neg (by rw [hpm.1.2 hmem]; simp), e2]
        · refine bad 3 ?_ ?_
          · unfold refHead
            rw [hlst, if_neg hlt, if_pos (by simpa using hmem)]
          · unfold layHead
            rw [hbt, if_neg hlt, if_pos fun e => hmem (hpm.1.1 e)]

theorem ref_tok {text : ByteArray} {k : Ar3} {l : List Tok} (h : lchk text.size k l = 0) : refR text k l = tokR text k l := by
  have hok := lchk_zero h
  have hsz := hok.size
  unfold tokR
  rw [if_neg (by simpa using h), layOut_fin]
  unfold refR rowsR
  obtain ⟨h1, h2⟩ := lns_of (t := text) (bl text).length [] (bl text) (Nat.le_refl _) rfl (.inl rfl)
  rw [bl_len] at h2
  have key := lay_rows (text := text) (k := k) (lens text) 0 l none [] (Int.le_refl 0) h1 (by unfold lens; rw [h2]; omega) (lchk_inc h) (fun t ht => by have := hok.toks t ht; unfold lens; rw [h2]; omega) (fun q hq => by cases hq) (fun _ => rfl) (fun c hc => by cases hc)
  have e0 : arF [] = [0] := rfl
  rw [e0] at key
  rw [key]
  show refFin k text.size l (revR (layS (bg text) k none [0] l)) = _
  cases layS (bg text) k none [0] l with
  | error e => rfl
  | ok y =>
    obtain ⟨o, s⟩ := y
    show Except.ok (o ++ layEndO k l.getLast? ++ List.replicate (s.reverse.length - 1) _) = Except.ok (o ++ (layEndO k l.getLast? ++ List.replicate (s.length - 1) _))
    rw [List.length_reverse, List.append_assoc]
end Go.Proofs.YtpgpognmdejdaaaDoor
