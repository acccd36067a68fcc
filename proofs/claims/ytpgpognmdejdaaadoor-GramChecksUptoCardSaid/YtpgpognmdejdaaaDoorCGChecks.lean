/- The law GramChecks. -/
import Derived.Test.YtpgpognmdejdaaaDoorVGramChecks
import Derived.Test.YtpgpognmdejdaaaDoorCOf
import Derived.Test.YtpgpognmdejdaaaDoorCSimple
import Derived.Test.YtpgpognmdejdaaaDoorCGramErr2
import Derived.Test.YtpgpognmdejdaaaDoorCWordErr
import Derived.Test.YtpgpognmdejdaaaDoorCGSame
import Derived.Test.YtpgpognmdejdaaaDoorCSame
import Derived.Test.YtpgpognmdejdaaaDoorCSameR
import Derived.Test.YtpgpognmdejdaaaDoorCCopyAny
import Derived.Test.YtpgpognmdejdaaaDoorCContSym
import Derived.Test.YtpgpognmdejdaaaDoorCContFSym
import Derived.Test.YtpgpognmdejdaaaDoorCEqInt
import Derived.Test.YtpgpognmdejdaaaDoorCSortedOf
import Derived.Test.YtpgpognmdejdaaaDoorLibD
set_option linter.all false
namespace Go.Proofs.YtpgpognmdejdaaaDoor
open Go Go.Proofs.YtpgpognmdejdaaaDoor.GH

theorem wt_bounds {g : Gram} (h : dGram.wt g ≤ 1048576) : g.rules.length ≤ 1048576 ∧ ∀ r ∈ g.rules, r.right.length ≤ 1048576 := by
  have h' : (g.rules.map dRule.wt).sum + 5 ≤ 1048576 := h
  have key : ∀ l : List Rule, l.length ≤ (l.map dRule.wt).sum ∧ ∀ r ∈ l, r.right.length ≤ (l.map dRule.wt).sum := by
    intro l
    induction l with
    | nil => simp
    | cons r l ih =>
      have e : ((r :: l).map dRule.wt).sum = (r.right.length * 3 + 3) + (l.map dRule.wt).sum := by simp [dRule]
      refine ⟨by rw [e]; simp only [List.length_cons]; have := ih.1; omega, fun x hx => ?_⟩
      rw [e]
      rcases List.mem_cons.1 hx with rfl | hx
      · omega
      · have := ih.2 x hx; omega
  have := key g.rules
  exact ⟨by omega, fun r hr => by have := this.2 r hr; omega⟩

def usesP (n : Int) (r : Rule) : Bool := decide ((⟨false, n⟩ : Sym) ∈ r.right)
def usesL (g : Gram) (n : Int) : List Int := if whereE g n = 0 then whereI (usesP n) 0 g.rules else []

theorem Uses_spec {L : GHeap} {g : Gram} {s : Sl} {n : Int} (hs : IsSl rRule L s g.rules) :
    ACalls PP gram_Uses.id [gramV g s, .int .i64 n] L fun v L' => ∃ r : Sl, v = .tuple #[.slice r.a r.n r.c, .int .i64 (whereE g n)] ∧ Le L L' ∧ IsSl rI L' r (usesL g n) := by
  apply gram_Uses.go
  intro b hu
  simp only [inL]
  have hle : Le L (L.alloc b [.int .i64 n] 1) := Le.alloc hu _ _
  refine ⟨n, by rw [alloc_mem]; rfl, (where_spec (p := usesP n) (hs.mono hle.toLeM) ?_).mono ?_⟩
  · intro r sr L' hl h4 hr
    apply gram_Uses_1.go
    exact ⟨n, hl.mem _ _ (by rw [alloc_mem]; rfl), (ContainsSym_ro (y := ⟨false, n⟩) hr (by omega)).use ⟨_, rfl, rfl, rfl⟩⟩
  · rintro v L' ⟨r, rfl, h1, h2⟩
    exact ⟨r, _, rfl, r, rfl, hle.trans h1, h2⟩

theorem any_uses {n : Int} {xs : List Sym} : (xs.any fun x => !x.term && x.n == n) = decide ((⟨false, n⟩ : Sym) ∈ xs) := by
  rw [Bool.eq_iff_iff, decide_eq_true_iff, List.any_eq_true]
  constructor
  · rintro ⟨⟨t, k⟩, hx, h⟩
    simp only [Bool.and_eq_true, Bool.not_eq_true', beq_iff_eq] at h
    obtain ⟨rfl, rfl⟩ := h
    exact hx
  · exact fun h => ⟨_, h, by simp⟩

theorem usesFn {L : GHeap} {a : Addr} {n : Int} (hm : L.mem a = some (.int .i64 n)) (x : Sym) : RO PP parllaw2_GramChecks_1.id ([.agg #[.bool x.term, .int .i64 x.n]] ++ [.pointer (some a)]) L (.bool (!x.term && x.n == n)) := by
  apply parllaw2_GramChecks_1.go
  refine bcI (fun h => ⟨n, hm, by rw [h, Bool.true_and], rfl⟩) fun h => ⟨by rw [h, Bool.false_and], rfl⟩

theorem whereI_one {p : Rule → Bool} {rs : List Rule} {i : Nat} (h : i < rs.length) : whereI p 0 (rs.take (i + 1)) = whereI p 0 (rs.take i) ++ (if p rs[i] = true then [((i : Nat) : Int)] else []) := by
  rw [whereI_succ h, Nat.zero_add]

theorem GramChecks_tail {L0 L : GHeap} {g : Gram} {s sof suses : Sl} {b9 : Nat} {n : Int} (hle0 : Le L0 L) (hs : IsSl rRule L s g.rules) (hv : chk g = 0) (hm : L.mem ⟨b9, 0, none⟩ = some (.int .i64 n)) (hn0 : ¬ n < 0) (hn1 : ¬ n ≥ g.nons)
    (hof : IsSl rI L sof (ofL g n)) (huses : IsSl rI L suses (usesL g n)) :
    parllaw2_GramChecks.c25 (fun v L' => v = .bool true ∧ Le L0 L') ⟨b9, 0, none⟩ sof (whereE g n) suses (whereE g n) ⟨none, 0, 0⟩ ⟨none, 0, 0⟩ s ((s.n : Nat) : Int) 0 L := by
  have e : whereE g n = 0 := by simp [whereE, hv, hn0, hn1]
  have hV := chk_zero.1 hv
  have hmany := hV.many
  simp only [ofL, usesL, e, if_true] at hof huses
  rw [e]
  have key : ∀ i, i ≤ g.rules.length → ∀ (L1 : GHeap) (sa sb : Sl), Le L L1 → Own L rI L1 sa (whereI (fun r => r.left == n) 0 (g.rules.take i)) → Own L rI L1 sb (whereI (usesP n) 0 (g.rules.take i)) → Sep sa sb →
      parllaw2_GramChecks.c25 (fun v L' => v = .bool true ∧ Le L0 L') ⟨b9, 0, none⟩ sof 0 suses 0 sa sb s ((s.n : Nat) : Int) ((i : Nat) : Int) L1 := by
    refine down ?_ ?_
    · intro L1 sa sb hle ha hb _
      rw [List.take_length] at ha hb
      apply parllaw2_GramChecks.go25
      refine bcD (fun h => absurd h (by rw [hs.n]; omega)) fun _ => bcT rfl (bcT rfl ?_)
      have h1 := whereI_length (p := fun r : Rule => r.left == n) (rs := g.rules) (i := 0)
      have h2 := whereI_length (p := usesP n) (rs := g.rules) (i := 0)
      refine (EqualInt_ro (hof.mono hle.toLeM) ha.sl (by omega)).use ⟨_, rfl, bcT (decide_eq_true rfl) ?_⟩
      exact (EqualInt_ro (huses.mono hle.toLeM) hb.sl (by omega)).use ⟨_, rfl, by rw [decide_eq_true rfl], hle0.trans hle⟩
    · intro i hi ih L1 sa sb hle ha hb hsep
      have hlen1 := whereI_length (p := fun r : Rule => r.left == n) (rs := g.rules.take i) (i := 0)
      have hlen2 := whereI_length (p := usesP n) (rs := g.rules.take i) (i := 0)
      rw [List.length_take] at hlen1 hlen2
      rw [whereI_one hi, whereI_one hi] at ih
      have hri := (hV.ok _ (List.getElem_mem hi)).2
      have next : ∀ (L2 : GHeap) (sa2 sb2 : Sl), Le L L2 → Own L rI L2 sa2 (whereI (fun r => r.left == n) 0 (g.rules.take i) ++ (if (g.rules[i].left == n) = true then [((i : Nat) : Int)] else [])) → Own L rI L2 sb2 (whereI (usesP n) 0 (g.rules.take i) ++ (if usesP n g.rules[i] = true then [((i : Nat) : Int)] else [])) → Sep sa2 sb2 →
          parllaw2_GramChecks.c31 (fun v L' => v = .bool true ∧ Le L0 L') ⟨b9, 0, none⟩ sof 0 suses 0 sa2 sb2 s ((s.n : Nat) : Int) ((i : Nat) : Int) L2 := by
        intro L2 sa2 sb2 g1 g2 g3 g4
        apply parllaw2_GramChecks.go31
        unfold parllaw2_GramChecks.t31
        rw [add_one (by omega)]
        exact ih L2 sa2 sb2 g1 g2 g3 g4
      have mid : ∀ (L2 : GHeap) (sa2 : Sl) (si : Sl), Le L L2 → Own L rI L2 sa2 (whereI (fun r => r.left == n) 0 (g.rules.take i) ++ (if (g.rules[i].left == n) = true then [((i : Nat) : Int)] else [])) → Own L rI L2 sb (whereI (usesP n) 0 (g.rules.take i)) → Sep sa2 sb → IsSl rSym L2 si g.rules[i].right →
          parllaw2_GramChecks.c29 (fun v L' => v = .bool true ∧ Le L0 L') ⟨b9, 0, none⟩ sof 0 suses 0 sa2 sb ((i : Nat) : Int) s ((s.n : Nat) : Int) ((i : Nat) : Int) g.rules[i].left si L2 := by
        intro L2 sa2 si g1 g2 g3 g4 g5
        apply parllaw2_GramChecks.go29
        refine (ContainsFuncSym_ro (p := fun x => !x.term && x.n == n) g5 (by omega) fun x _ => usesFn (g1.mem _ _ hm) x).use ⟨_, rfl, ?_⟩
        rw [any_uses]
        refine bcD (fun hp => ?_) fun hp => ?_
        · have hp' : usesP n g.rules[i] = true := decide_eq_true hp
          rw [if_pos hp'] at next
          apply parllaw2_GramChecks.go30
          refine Own.append (R := rI) (bytes := 8) (m := 1) (ys := [((i : Nat) : Int)]) g3 g1 (Cells.cons (c := [.int .i64 ((i : Nat) : Int)]) rfl .nil) rfl (.inl (by omega)) fun s' L' k1 _ k3 _ k5 => ?_
          have hk := k5 rI sa2 _ g2 g4.symm
          exact next L' sa2 s' k1 hk.1 k3 hk.2.symm
        · have hp' : ¬ usesP n g.rules[i] = true := by unfold usesP; simpa using hp
          rw [if_neg hp', List.append_nil] at next
          exact next L2 sa2 sb g1 g2 g3 g4
      apply parllaw2_GramChecks.go25
      refine bcD (fun _ => ?_) fun h => absurd (by rw [hs.n]; omega) h
      refine (hs.mono hle.toLeM).get (List.getElem?_eq_getElem hi) fun a cs hK hc => ?_
      obtain ⟨si, rfl, hsi⟩ := hK
      refine ⟨_, si, hc, n, hle.mem _ _ hm, bcE (fun hp => ?_) fun hp => ?_⟩
      · rw [if_pos (by simpa using hp)] at mid
        refine Own.append (R := rI) (bytes := 8) (m := 1) (ys := [((i : Nat) : Int)]) ha hle (Cells.cons (c := [.int .i64 ((i : Nat) : Int)]) rfl .nil) rfl (.inl (by omega)) fun s' L' k1 k2 k3 _ k5 => ?_
        have hk := k5 rI sb _ hb hsep
        exact mid L' s' si k1 k3 hk.1 hk.2 (hsi.mono k2)
      · rw [if_neg (by simpa using hp), List.append_nil] at mid
        exact mid L1 sa si hle ha hb hsep hsi
  exact key 0 (Nat.zero_le _) L ⟨none, 0, 0⟩ ⟨none, 0, 0⟩ (.refl L) (.nil _ _ _) (.nil _ _ _) (fun h => absurd h (Nat.lt_irrefl 0))

theorem GramChecks_same {L0 L : GHeap} {g : Gram} {s sof suses so sr : Sl} {o : List Nat} {b9 : Nat} {n : Int} (hle0 : Le L0 L) (hs : IsSl rRule L s g.rules) (hv : chk g = 0) (hm : L.mem ⟨b9, 0, none⟩ = some (.int .i64 n))
    (hof : IsSl rI L sof (ofL g n)) (huses : IsSl rI L suses (usesL g n)) (ho : Ordd g o) (hso : IsSl rI L so (o.map fun n : Nat => (n : Int))) (hsr : IsSl rRule L sr (o.map (rAt g))) :
    parllaw2_GramChecks.c16 (fun v L' => v = .bool true ∧ Le L0 L') ⟨b9, 0, none⟩ sof (whereE g n) suses (whereE g n) so ((so.n : Nat) : Int) 0 g.terms g.nons g.start s g.terms g.nons g.start sr L := by
  have hol := ho.len
  have hV := chk_zero.1 hv
  have hmany := hV.many
  have hson : so.n = o.length := by rw [hso.n, List.length_map]
  have key : ∀ i, i ≤ o.length → parllaw2_GramChecks.c16 (fun v L' => v = .bool true ∧ Le L0 L') ⟨b9, 0, none⟩ sof (whereE g n) suses (whereE g n) so ((so.n : Nat) : Int) ((i : Nat) : Int) g.terms g.nons g.start s g.terms g.nons g.start sr L := by
    refine down ?_ ?_
    · apply parllaw2_GramChecks.go16
      refine bcD (fun h => absurd h (by omega)) fun _ => ?_
      have out : (n < 0 ∨ n ≥ g.nons) → parllaw2_GramChecks.c22 (fun v L' => v = .bool true ∧ Le L0 L') sof (whereE g n) suses (whereE g n) L := by
        intro h
        have e : whereE g n = 1 := by
          unfold whereE; rw [if_neg (by omega)]
          rcases h with h | h
          · rw [if_pos h]
          · by_cases h0 : n < 0
            · rw [if_pos h0]
            · rw [if_neg h0, if_pos h]
        have e1 : sof.n = 0 := by have := hof.n; rw [ofL, e, if_neg (by omega)] at this; exact this
        have e2 : suses.n = 0 := by have := huses.n; rw [usesL, e, if_neg (by omega)] at this; exact this
        apply parllaw2_GramChecks.go22
        rw [e]
        exact bcT rfl (bcT rfl ⟨by rw [e1, e2]; rfl, hle0⟩)
      refine ⟨n, hm, bcD (fun h => out (.inl h)) fun h0 => ⟨n, hm, bcD (fun h => out (.inr h)) fun h1 => ?_⟩⟩
      exact GramChecks_tail hle0 hs hv hm h0 h1 hof huses
    · intro i hi ih
      have hlt : o[i] < g.rules.length := ho.lt (List.getElem_mem hi)
      apply parllaw2_GramChecks.go16
      refine bcD (fun _ => ?_) fun h => absurd (by omega) h
      refine hso.get (i := i) (x := ((o[i] : Nat) : Int)) (by rw [List.getElem?_map, List.getElem?_eq_getElem hi]; rfl) fun a cs hK hc => ?_
      obtain rfl := hK
      refine ⟨_, reads_one hc, ?_⟩
      refine hsr.get (i := i) (x := rAt g o[i]) (by rw [List.getElem?_map, List.getElem?_eq_getElem hi]; rfl) fun a cs hK hc => ?_
      obtain ⟨s1, rfl, h1⟩ := hK
      refine ⟨_, s1, hc, ?_⟩
      refine hs.get (rAt_get hlt) fun a cs hK hc => ?_
      obtain ⟨s2, rfl, h2⟩ := hK
      refine ⟨_, s2, hc, (SameRule_ro h1 h2 (by have := valid_right hV hlt; omega)).use ⟨_, rfl, bcF (by simp) ?_⟩⟩
      rw [add_one (by omega)]
      exact ih
  exact key 0 (Nat.zero_le _)

theorem GramChecks_spec {L : GHeap} {g h : Gram} {w : List Int} {s t sw : Sl} {most n : Int} (hs : IsSl rRule L s g.rules) (ht : IsSl rRule L t h.rules) (hw : IsSl rI L sw w) (hg : dGram.wt g ≤ 1048576) (hwl : w.length ≤ 1048576) :
    ACalls PP parllaw2_GramChecks.id [gramV g s, gramV h t, .slice sw.a sw.n sw.c, .int .i64 most, .int .i64 n] L fun v L' => v = .bool true ∧ Le L L' := by
  obtain ⟨hgl, hgr⟩ := wt_bounds hg
  have hgr' : ∀ r ∈ g.rules, r.right.length ≤ 1099511627776 := fun r hr => by have := hgr r hr; omega
  have e0 : chk simG = 0 := by decide
  apply parllaw2_GramChecks.go
  intro b9 hu
  simp only [inL]
  have hle1 : Le L (L.alloc b9 [.int .i64 n] 1) := Le.alloc hu _ _
  have hm : (L.alloc b9 [.int .i64 n] 1).mem ⟨b9, 0, none⟩ = some (.int .i64 n) := by rw [alloc_mem]; rfl
  generalize L.alloc b9 [.int .i64 n] 1 = L1 at hle1 hm ⊢
  refine simple_spec.mono ?_
  rintro v L2 ⟨hle2, s2, rfl, hs2⟩
  refine ⟨_, _, _, s2, rfl, (Of_spec hs2).mono ?_⟩
  rintro v L3 ⟨r3, rfl, hle3, hr3⟩
  have ew : whereE simG 0 = 0 := by decide
  have ol : ofL simG 0 = [0, 1] := by decide
  refine ⟨r3, _, rfl, bcF (by rw [ew]; rfl) ?_⟩
  intro b37 hu37
  have hle4 : Le L3 (L3.alloc b37 [.int .i64 0, .int .i64 1] 2) := Le.alloc hu37 _ _
  have hl : IsSl rI (L3.alloc b37 [.int .i64 0, .int .i64 1] 2) ⟨some ⟨b37, 0, none⟩, 2, 2⟩ [0, 1] := IsSl.of_cells (cs := [.int .i64 0, .int .i64 1]) (Cells.cons (R := rI) (c := [.int .i64 0]) rfl (Cells.cons (R := rI) (c := [.int .i64 1]) rfl .nil)) rfl (Nat.le_refl _) alloc_reads
  generalize L3.alloc b37 [.int .i64 0, .int .i64 1] 2 = L4 at hle4 hl ⊢
  have hle := ((hle1.trans hle2).trans hle3).trans hle4
  have hm4 := ((hle2.trans hle3).trans hle4).mem _ _ hm
  refine (EqualInt_ro (hr3.mono hle4.toLeM) hl (by rw [ol]; decide)).use ⟨_, rfl, bcF (by rw [ol]; rfl) ?_⟩
  refine (GramErr_spec (hs.mono hle.toLeM)).mono ?_
  rintro v L5 ⟨rfl, hle5⟩
  have hl5 := hle.trans hle5
  refine ⟨_, rfl, (Check_ro (hs.mono hl5.toLeM)).use ⟨_, rfl, bcF (by simp) ?_⟩⟩
  refine (WordB_ro (hw.mono hl5.toLeM) (.inr hwl)).use ⟨_, rfl, (WordErr_spec (hw.mono hl5.toLeM) (.inr hwl)).mono ?_⟩
  rintro v L6 ⟨rfl, hle6⟩
  have hl6 := hl5.trans hle6
  have hs6 := hs.mono hl6.toLeM
  refine ⟨_, rfl, bcF (by simp) ?_⟩
  refine (gSame_ro hs6 (ht.mono hl6.toLeM) (by omega) hgr').use ⟨_, rfl, (SameGram_ro hs6 (ht.mono hl6.toLeM) (by omega) hgr').use ⟨_, rfl, bcF (by simp) ?_⟩⟩
  refine (gSame_ro hs6 hs6 (by omega) hgr').use ⟨_, rfl, bcF (by simp) ?_⟩
  refine (copyAny_spec hs6 hgr hgl).mono ?_
  rintro v L7 ⟨hle7, s7, rfl, hs7⟩
  have hl7 := hl6.trans hle7
  refine ⟨_, _, _, s7, rfl, (SameGram_ro hs7.sl (hs.mono hl7.toLeM) (by omega) hgr').use ⟨_, rfl, bcF (by simp) ?_⟩⟩
  refine ⟨n, ((hle5.trans hle6).trans hle7).mem _ _ hm4, (Of_spec (hs.mono hl7.toLeM)).mono ?_⟩
  rintro v L8 ⟨r8, rfl, hle8, hr8⟩
  have hl8 := hl7.trans hle8
  refine ⟨r8, _, rfl, n, (((hle5.trans hle6).trans hle7).trans hle8).mem _ _ hm4, (Uses_spec (hs.mono hl8.toLeM)).mono ?_⟩
  rintro v L9 ⟨r9, rfl, hle9, hr9⟩
  have hl9 := hl8.trans hle9
  refine ⟨r9, _, rfl, (Sorted_spec (hs.mono hl9.toLeM)).mono ?_⟩
  rintro v L10 ⟨hle10, hpost⟩
  have hl10 := hl9.trans hle10
  have hm10 := (((((hle5.trans hle6).trans hle7).trans hle8).trans hle9).trans hle10).mem _ _ hm4
  have hof := hr8.mono (hle9.trans hle10).toLeM
  have hus := hr9.mono hle10.toLeM
  rcases hpost with ⟨hne, rfl⟩ | ⟨he, o, so, sr, ho, rfl, hsr, hso⟩
  · have e : whereE g n = chk g := by simp [whereE, hne]
    have e1 : r8.n = 0 := by have := hof.n; rw [ofL, e, if_neg hne] at this; exact this
    have e2 : r9.n = 0 := by have := hus.n; rw [usesL, e, if_neg hne] at this; exact this
    refine ⟨_, _, _, ⟨none, 0, 0⟩, ⟨none, 0, 0⟩, _, rfl, bcT (by simpa using hne) (bcT (by rw [e]; simp) (bcT (by rw [e]; simp) (bcT (by simp) (bcT (by rw [e1, e2]; rfl) ?_))))⟩
    refine (SameGram_ro (a := ⟨0, 0, 0, []⟩) (b := ⟨0, 0, 0, []⟩) (s1 := ⟨none, 0, 0⟩) (s2 := ⟨none, 0, 0⟩) (.nil _ _ _ _) (.nil _ _ _ _) (by simp) (by simp)).use ⟨_, rfl, by simp, hl10⟩
  · refine ⟨_, _, _, sr, so, _, rfl, bcF (by rw [he]; rfl) ?_⟩
    have hV := chk_zero.1 he
    refine (SortedOf_spec hV ho (hs.mono hl10.toLeM)).mono ?_
    rintro v L11 ⟨hle11, so2, rfl, hso2⟩
    have hl11 := hl10.trans hle11
    have hol := ho.len
    have hmany := hV.many
    refine ⟨so2, rfl, bcF (by simp) ((EqualInt_ro (hso.mono hle11.toLeM) hso2 (by rw [List.length_map]; omega)).use ⟨_, rfl, bcF (by simp) (bcF ?_ (bcF (by simp [sortedG]) (bcF (by simp [sortedG]) (bcF (by simp [sortedG]) ?_))))⟩)⟩
    · rw [hsr.n, hso2.n, List.length_map, List.length_map]; simp
    · exact GramChecks_same hl11 (hs.mono hl11.toLeM) he (hle11.mem _ _ hm10) (hof.mono hle11.toLeM) (hus.mono hle11.toLeM) ho hso2 (hsr.mono hle11.toLeM)

end Go.Proofs.YtpgpognmdejdaaaDoor
