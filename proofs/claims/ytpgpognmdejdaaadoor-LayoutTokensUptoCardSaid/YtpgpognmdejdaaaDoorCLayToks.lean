/- The law LayoutTokens. -/
import Derived.Test.YtpgpognmdejdaaaDoorCLayRef2
set_option linter.all false
namespace Go.Proofs.YtpgpognmdejdaaaDoor
open Go Go.Proofs.YtpgpognmdejdaaaDoor.GH

theorem Unlike_ro {L : GHeap} {k : Ar3} : RO PP parlref2_Unlike.id [ar3V k] L (.bool (decide (k.a ≠ k.b ∧ k.b ≠ k.c ∧ k.a ≠ k.c))) := by
  apply parlref2_Unlike.go
  refine ⟨⟨by omega, by omega⟩, ⟨by omega, by omega⟩, bcNE (fun h1 => ⟨⟨by omega, by omega⟩, ⟨by omega, by omega⟩, bcNE (fun h2 => ⟨⟨by omega, by omega⟩, ⟨by omega, by omega⟩, ?_, rfl⟩) fun h2 => ⟨?_, rfl⟩⟩) fun h1 => ⟨?_, rfl⟩⟩
  · congr 1
    rw [Bool.eq_iff_iff, decide_eq_true_iff]
    exact ⟨fun h => ⟨h1, h2, by simpa using h⟩, fun h => by simpa using h.2.2⟩
  · rw [decide_eq_false fun h => h.2.1 h2]
  · rw [decide_eq_false fun h => h.1 h1]

theorem LayoutErr_ro {L : GHeap} {text : ByteArray} {s : Sl} {l : List Tok} {k : Ar3} (hs : IsSl rTok L s l) : RO PP parlref2_LayoutErr.id [.string text, .slice s.a s.n s.c, ar3V k] L (.int .i64 (lchk text.size k l)) := by
  have hn := hs.n
  apply parlref2_LayoutErr.go
  refine bcD (fun h => ?_) fun h1 => bcD (fun h => ?_) fun h2 => ?_
  · exact parlref2_LayoutErr.go2 ⟨by unfold lchk; rw [if_pos (by omega)], rfl⟩
  · exact parlref2_LayoutErr.go2 ⟨by unfold lchk; rw [if_neg (by omega), if_pos (by omega)], rfl⟩
  refine Unlike_ro.use ⟨_, rfl, bcN (bcD (fun h => ?_) fun h => ⟨?_, rfl⟩)⟩
  · have hc : lchk text.size k l = lchkL text.size k 0 l := by
      unfold lchk
      rw [if_neg (by omega), if_neg (by omega), if_neg]
      rintro (e | e | e)
      · exact h.1 e
      · exact h.2.2 e
      · exact h.2.1 e
    have key : ∀ i, i ≤ l.length → ∀ a, a = (if i = 0 then 0 else ((l[i - 1]?).map Tok.to).getD 0) → lchkL text.size k 0 l = lchkL text.size k a (l.drop i) →
        parlref2_LayoutErr.c6 (fun u L' => u = Value.int .i64 (lchk text.size k l) ∧ L' = L) text s s ((s.n : Nat) : Int) ((i : Nat) : Int) k.a k.b k.c L := by
      refine down ?_ ?_
      · intro a _ he
        rw [List.drop_length] at he
        apply parlref2_LayoutErr.go6
        refine bcD (fun h => absurd h (by omega)) fun _ => ⟨by rw [hc, he]; rfl, rfl⟩
      · intro i hi ih a ha he
        rw [List.drop_eq_getElem_cons hi] at he
        have hx := List.getElem?_eq_getElem hi
        have ih := ih (l[i]).to (by rw [if_neg (by omega), Nat.add_sub_cancel, hx]; rfl)
        generalize l[i] = t at *
        simp only [lchkL] at he
        have c11 : parlref2_LayoutErr.c11 (fun u L' => u = Value.int .i64 (lchk text.size k l) ∧ L' = L) text s a s ((s.n : Nat) : Int) ((i : Nat) : Int) k.a k.b k.c t.kind t.fr t.to L := by
          apply parlref2_LayoutErr.go11
          refine bcD (fun h => parlref2_LayoutErr.go12 ⟨by rw [hc, he, if_pos h], rfl⟩) fun g1 => ?_
          rw [if_neg g1] at he
          refine bcD (fun h => parlref2_LayoutErr.go12 ⟨by rw [hc, he, if_pos (by omega)], rfl⟩) fun g2 => ?_
          rw [if_neg (by omega)] at he
          refine bcD (fun h => parlref2_LayoutErr.go12 ⟨by rw [hc, he, if_pos (by omega)], rfl⟩) fun g3 => ?_
          rw [if_neg (by omega)] at he
          apply parlref2_LayoutErr.go13
          refine ⟨⟨by omega, by omega⟩, bcE (fun h => parlref2_LayoutErr.go14 ⟨by rw [hc, he, if_pos (.inl h)], rfl⟩) fun f1 => ⟨⟨by omega, by omega⟩, bcE (fun h => parlref2_LayoutErr.go14 ⟨by rw [hc, he, if_pos (.inr (.inl h))], rfl⟩) fun f2 => ⟨⟨by omega, by omega⟩, bcE (fun h => parlref2_LayoutErr.go14 ⟨by rw [hc, he, if_pos (.inr (.inr h))], rfl⟩) fun f3 => ?_⟩⟩⟩
          rw [if_neg (by rintro (h | h | h); exact f1 h; exact f2 h; exact f3 h)] at he
          apply parlref2_LayoutErr.go15
          unfold parlref2_LayoutErr.t15
          rw [add_one (by omega)]
          exact ih he
        apply parlref2_LayoutErr.go6
        refine bcD (fun _ => ?_) fun h => absurd (by omega) h
        refine hs.get hx fun x cs hK hcc => ?_
        obtain rfl := hK
        refine ⟨_, _, _, hcc, bcD (fun hpos => ?_) fun hpos => ?_⟩
        · have hxp := List.getElem?_eq_getElem (l := l) (i := i - 1) (by omega)
          rw [if_neg (by omega), hxp] at ha
          generalize l[i - 1] = q at *
          have ha : a = q.to := ha
          have ew : w64 (((i : Nat) : Int) - 1) = ((i - 1 : Nat) : Int) := by rw [w64_in (by omega) (by omega)]; omega
          rw [ew]
          refine hs.get hxp fun x cs hK hc2 => ?_
          obtain rfl := hK
          exact ⟨q.to, hc2.2.2.1, by rw [← ha]; exact c11⟩
        · rw [if_pos (by omega)] at ha
          rw [ha] at c11
          exact c11
    exact key 0 (Nat.zero_le _) 0 rfl rfl
  · unfold lchk
    rw [if_neg (by omega), if_neg (by omega), if_pos]
    by_cases e1 : k.a = k.b
    · exact .inl e1
    · by_cases e2 : k.b = k.c
      · exact .inr (.inr e2)
      · by_cases e3 : k.a = k.c
        · exact .inr (.inl e3)
        · exact absurd ⟨e1, e2, e3⟩ h

theorem layHead_cnt {b : Int → Int} {k : Ar3} {p : Option Tok} {t : Tok} {s s' : List Int} {o : List Tok} (h : layHead b k p t s = .ok (o, s')) : o.length + s'.length ≤ s.length + 3 := by
  have hel : (layEndO k p).length ≤ 1 := by unfold layEndO; split <;> simp
  unfold layHead at h
  split at h
  · split at h
    · cases h
    · split at h
      · cases h
      · cases h
        simp only [List.length_append, List.length_cons, List.length_nil]; omega
  · split at h
    · cases h
    · cases h
      have := pops_len (t.fr - b t.fr) s
      simp only [List.length_append, List.length_replicate]; omega

theorem layS_cnt {b : Int → Int} {k : Ar3} : ∀ {l : List Tok} {p : Option Tok} {s s' : List Int} {o : List Tok}, layS b k p s l = .ok (o, s') → o.length + s'.length ≤ s.length + 4 * l.length
  | [], p, s, s', o, h => by cases h; simp
  | t :: r, p, s, s', o, h => by
    cases hst : laySt b k p t s with
    | error e => rw [layS_err hst] at h; cases h
    | ok y =>
      obtain ⟨o1, s1⟩ := y
      rw [layS_ok hst] at h
      cases hr : layS b k (some t) s1 r with
      | error e => rw [hr] at h; cases h
      | ok z =>
        obtain ⟨o2, s2⟩ := z
        rw [hr] at h
        cases h
        have ih := layS_cnt hr
        have h1 : o1.length + s1.length ≤ s.length + 4 := by
          unfold laySt at hst
          split at hst
          · cases hh : layHead b k p t s with
            | error e => rw [hh] at hst; cases hst
            | ok w =>
              obtain ⟨o3, s3⟩ := w
              rw [hh] at hst
              cases hst
              have := layHead_cnt hh
              simp only [List.length_append, List.length_cons, List.length_nil]; omega
          · cases hst; simp; omega
        simp only [List.length_append, List.length_cons]; omega

theorem tok_len {text : ByteArray} {k : Ar3} {l out : List Tok} (hok : LayOk text.size k l) (h : tokR text k l = .ok out) : out.length ≤ 4000 := by
  have hln := hok.len
  have hel : (layEndO k l.getLast?).length ≤ 1 := by unfold layEndO; split <;> simp
  unfold tokR at h
  split at h
  · cases h
  · rw [layOut_fin] at h
    cases hs : layS (bg text) k none [0] l with
    | error e => rw [hs] at h; cases h
    | ok y =>
      obtain ⟨o, s⟩ := y
      rw [hs] at h
      cases h
      have := layS_cnt hs
      simp only [layEnd, List.length_append, List.length_replicate, List.length_cons, List.length_nil] at this ⊢
      omega

theorem LayoutTokens_spec {L : GHeap} {text : ByteArray} {s : Sl} {l : List Tok} {k : Ar3} (hs : IsSl rTok L s l) (hb : l.length ≤ 1048576) :
    ACalls PP parllaw2_LayoutTokens.id [.string text, .slice s.a s.n s.c, ar3V k] L fun v L' => v = .bool true ∧ Le L L' := by
  have hn := hs.n
  apply parllaw2_LayoutTokens.go
  intro b19 hu
  simp only [inL]
  have hle0 : Le L (L.alloc b19 [.int .i64 3, .int .i64 0, .int .i64 1] 3) := .alloc hu _ _
  have hs0 : IsSl rTok (L.alloc b19 [.int .i64 3, .int .i64 0, .int .i64 1] 3) ⟨some ⟨b19, 0, none⟩, 1, 1⟩ [⟨3, 0, 1⟩] := IsSl.of_cells (cs := [.int .i64 3, .int .i64 0, .int .i64 1]) (tok_cells (t := ⟨3, 0, 1⟩)) rfl (Nat.le_refl _) alloc_reads
  generalize L.alloc b19 [.int .i64 3, .int .i64 0, .int .i64 1] 3 = L0 at *
  refine (Tokens_spec (text := ByteArray.mk #[97]) (k := ⟨0, 1, 2⟩) hs0).mono ?_
  rintro v L1 ⟨hle1, sx, e, rfl, hres⟩
  have ht : tokR (ByteArray.mk #[97]) ⟨0, 1, 2⟩ [⟨3, 0, 1⟩] = .ok [⟨3, 0, 1⟩, ⟨2, 1, 1⟩] := by rfl
  rw [ht] at hres
  rcases hres with ⟨_, h, _⟩ | ⟨rfl, out, h, hx⟩
  · cases h
  cases h
  refine ⟨sx, _, rfl, bcF rfl (bcF (by rw [hx.n]; rfl) ?_)⟩
  have hl1 := hle0.trans hle1
  refine (Tokens_spec (text := text) (k := k) (hs.mono hl1.toLeM)).mono ?_
  rintro v L2 ⟨hle2, sy, e, rfl, hres⟩
  have hl2 := hl1.trans hle2
  refine ⟨sy, e, rfl, ?_⟩
  have hs2 := hs.mono hl2.toLeM
  have key : ∀ i, i ≤ l.length → ∀ (sp : Sl) (L3 : GHeap), Le L2 L3 → Own L2 rTok L3 sp (stripM k (l.take i)) → parllaw2_LayoutTokens.c7 (fun v L' => v = .bool true ∧ Le L L') text s sy e sp s ((s.n : Nat) : Int) ((i : Nat) : Int) k.a k.b k.c L3 := by
    refine down ?_ ?_
    · intro sp L3 h3 ho
      rw [List.take_length] at ho
      have hl3 := hl2.trans h3
      have hs3 := hs.mono hl3.toLeM
      apply parllaw2_LayoutTokens.go7
      refine bcD (fun h => absurd h (by omega)) fun _ => ?_
      refine (LayoutErr_ro hs3).use ⟨_, rfl, (Check_ro hs3).use ⟨_, rfl, bcF (by simp) ?_⟩⟩
      refine (Strip_spec (k := k) hs3 hb).mono ?_
      rintro v L4 ⟨hle4, st, rfl, hst⟩
      have hl4 := hl3.trans hle4
      have hsl : (stripM k l).length ≤ 1048576 := Nat.le_trans (List.length_filter_le ..) hb
      refine ⟨st, rfl, (EqualTok_ro hst (ho.sl.mono hle4.toLeM) hsl).use ⟨_, rfl, bcF (by simp) ?_⟩⟩
      refine bcNE (fun hne => ?_) fun h0 => ?_
      · have htr : tokR text k l = .error (lchk text.size k l) := by unfold tokR; rw [if_pos hne]
        rw [htr] at hres
        rcases hres with ⟨_, h, rfl⟩ | ⟨_, _, h, _⟩
        · cases h
          exact bcT (by simp) ⟨by simp, hl4⟩
        · cases h
      · have hok := lchk_zero h0
        refine (TokensOf_spec (hs.mono hl4.toLeM) hok).mono ?_
        rintro v L5 ⟨hle5, sw, f, rfl, hres2⟩
        rw [ref_tok h0] at hres2
        refine ⟨sw, f, rfl, ?_⟩
        rcases hres with ⟨he, h, rfl⟩ | ⟨rfl, out, h, hout⟩
        · rw [h] at hres2
          rcases hres2 with ⟨hf, h', rfl⟩ | ⟨_, _, h', _⟩
          · cases h'
            refine bcT (by simp) ((EqualTok_ro (s := ⟨none, 0, 0⟩) (u := ⟨none, 0, 0⟩) (xs := []) (ys := []) (.nil _ _ _ _) (.nil _ _ _ _) (by simp)).use ⟨_, rfl, by simp, hl4.trans hle5⟩)
          · cases h'
        · rw [h] at hres2
          rcases hres2 with ⟨hf, h', _⟩ | ⟨rfl, out', h', hout'⟩
          · cases h'
          · cases h'
            refine bcT (by simp) ((EqualTok_ro (hout.mono ((h3.trans hle4).trans hle5).toLeM) hout' ?_).use ⟨_, rfl, by simp, hl4.trans hle5⟩)
            have := tok_len hok h
            omega
    · intro i hi ih sp L3 h3 ho
      have hx := List.getElem?_eq_getElem hi
      rw [List.take_succ_eq_append_getElem hi, strip_append] at ih
      generalize l[i] = t at *
      have hlen : (stripM k (l.take i)).length ≤ i := by
        have := List.length_filter_le (fun t : Tok => !decide (isLay k t.kind)) (l.take i)
        rw [List.length_take] at this
        unfold stripM; omega
      have skip : isLay k t.kind → parllaw2_LayoutTokens.c11 (fun v L' => v = .bool true ∧ Le L L') text s sy e sp s ((s.n : Nat) : Int) ((i : Nat) : Int) k.a k.b k.c L3 := by
        intro h
        rw [strip_lay h, List.append_nil] at ih
        apply parllaw2_LayoutTokens.go11
        unfold parllaw2_LayoutTokens.t11
        rw [add_one (by omega)]
        exact ih sp L3 h3 ho
      apply parllaw2_LayoutTokens.go7
      refine bcD (fun _ => ?_) fun h => absurd (by omega) h
      refine (hs2.mono h3.toLeM).get hx fun a cs hK hc => ?_
      obtain rfl := hK
      refine ⟨_, _, _, hc, ⟨by omega, by omega⟩, bcNE (fun f1 => ⟨⟨by omega, by omega⟩, bcNE (fun f2 => ⟨⟨by omega, by omega⟩, bcNE (fun f3 => ?_) fun h => skip (.inr (.inr h))⟩) fun h => skip (.inr (.inl h))⟩) fun h => skip (.inl h)⟩
      rw [strip_tok (by rintro (h | h | h); exact f1 h; exact f2 h; exact f3 h)] at ih
      refine Own.append (R := rTok) (bytes := 24) (m := 1) (ys := [t]) ho h3 tok_cells rfl (.inl (by omega)) fun so' L4 g1 _ g3 _ _ => ?_
      apply parllaw2_LayoutTokens.go11
      unfold parllaw2_LayoutTokens.t11
      rw [add_one (by omega)]
      exact ih so' L4 g1 g3
  exact key 0 (Nat.zero_le _) ⟨none, 0, 0⟩ L2 (.refl _) (.nil _ _ _)
end Go.Proofs.YtpgpognmdejdaaaDoor
