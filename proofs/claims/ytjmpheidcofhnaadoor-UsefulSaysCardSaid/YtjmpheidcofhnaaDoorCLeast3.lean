/- Package useful: Least. -/
import Derived.Test.YtjmpheidcofhnaaDoorCLeast2
set_option linter.all false
namespace Go.Proofs.YtjmpheidcofhnaaDoor
open Go Go.Proofs.YtjmpheidcofhnaaDoor.GH

def LeastPost (L : GHeap) (g : Gram) (n : Int) (v : Value) (L' : GHeap) : Prop := Le L L' ∧ ∃ lens : List Int, LenSpec g lens ∧
  ((atI lens n < 0 ∧ v = .tuple #[.slice none 0 0, .int .i64 5]) ∨ (2000 < atI lens n ∧ v = .tuple #[.slice none 0 0, .int .i64 2]) ∨
   (0 ≤ atI lens n ∧ atI lens n ≤ 2000 ∧ ∃ (so : Sl) (w : List Int), v = .tuple #[.slice so.a so.n so.c, .int .i64 0] ∧ IsSl rI L' so w ∧ LW g n w))

def dn (done : List Bool) (n : Int) : Prop := 0 ≤ n ∧ dnOf done n

/-- Kept from the arithmetic. -/
def Hid (p : Prop) : Prop := p

theorem Least_c11 {L L3 : GHeap} {g : Gram} {sg sl : Sl} {lens : List Int} {b1 b2 : Nat} {n : Int} (hv : Valid g) (hL : Le L L3) (hs : IsSl rRule L3 sg g.rules) (hl : IsSl rI L3 sl lens) (hsp : LenSpec g lens) (hn : 0 ≤ n ∧ n < g.nons) (hpos : 0 ≤ atI lens n) (hbig : atI lens n ≤ 2000) :
    ∀ (d : Nat) (ss : List Sl) (words : List (List Int)) (done : List Bool) (L4 : GHeap), falses done = d → LWS L3 L4 b1 b2 g.nons.toNat ss words done → (∀ m, dn done m → LW g m (wdOf words m)) → (∀ w ∈ words, w.length ≤ 16777216) →
    useful_Least.c11 (LeastPost L g n) n sl ⟨some ⟨b1, 0, none⟩, g.nons.toNat, g.nons.toNat⟩ ⟨some ⟨b2, 0, none⟩, g.nons.toNat, g.nons.toNat⟩ g.terms g.nons g.start sg L4 := by
  intro d
  have hnn := hv.nons
  have hmany := hv.many
  have hll := hsp.len
  induction d using Nat.strongRecOn with
  | ind d ih =>
  intro ss words done L4 hd h hLW hB
  have hdl : done.length = g.nons.toNat := h.p2.n.symm
  have hssl : ss.length = g.nons.toNat := h.p1.n.symm
  have hwl : words.length = g.nons.toNat := by rw [← h.len]; exact hssl
  have hnlt : n.toNat < done.length := by omega
  have hdn : done.getD n.toNat false = done[n.toNat] := by rw [List.getD_eq_getElem?_getD, List.getElem?_eq_getElem hnlt]; rfl
  apply useful_Least.go11
  refine h.p2.getI hn.1 (List.getElem?_eq_getElem hnlt) fun a hc => ⟨_, hc, bcN (bcI (fun hdt => ?_) fun hdf => ?_)⟩
  · -- n is done
    have hwlt : n.toNat < words.length := by omega
    have hdone : dn done n := ⟨hn.1, by unfold dnOf; rw [hdn]; exact hdt⟩
    refine h.isSl.getI hn.1 (List.getElem?_eq_getElem hwlt) fun a cs hK hc => ?_
    obtain ⟨so, rfl, hso⟩ := hK
    have ew : wdOf words n = words[n.toNat] := by unfold wdOf; rw [List.getD_eq_getElem?_getD, List.getElem?_eq_getElem hwlt]; rfl
    refine ⟨so, reads_one hc, hL.trans h.base, lens, hsp, .inr (.inr ⟨hpos, hbig, so, words[n.toNat], rfl, hso, ?_⟩)⟩
    rw [← ew]; exact hLW n hdone
  · have hnd : ¬ dn done n := fun hd' => by
      have := hd'.2
      unfold dnOf at this
      rw [hdn, hdf] at this; cases this
    -- the rules that can be taken
    let El : Rule → Prop := fun r => ¬ dn done r.left ∧ lenR lens r.right 0 = atI lens r.left ∧ ∀ s ∈ r.right, s.term = false → dn done s.n
    have loop : ∀ k, k ≤ g.rules.length → ∀ (L5 : GHeap) (at_ : Int) (sb : Sl), LWS L3 L5 b1 b2 g.nons.toNat ss words done →
        Hid ((at_ = -1 ∧ ∀ r ∈ g.rules.take k, ¬ El r) ∨ (∃ r ∈ g.rules, at_ = r.left ∧ El r ∧ IsSl rI (L5.off (fun b => b = b1 ∨ b = b2)) sb (wcat (wdOf words) r.right) ∧ ∀ r' ∈ g.rules.take k, El r' → leW (wcat (wdOf words) r.right) (wcat (wdOf words) r'.right))) →
        useful_Least.c15 (LeastPost L g n) n sl ⟨some ⟨b1, 0, none⟩, g.nons.toNat, g.nons.toNat⟩ ⟨some ⟨b2, 0, none⟩, g.nons.toNat, g.nons.toNat⟩ at_ sb sg ((sg.n : Nat) : Int) ((k : Nat) : Int) g.terms g.nons g.start sg L5 := by
      refine down ?_ ?_
      · intro L5 at_ sb h5 hat
        rw [List.take_length] at hat
        have hs5 := hs.mono h5.base.toLeM
        apply useful_Least.go15
        refine bcD (fun h => absurd h (by rw [hs5.n]; omega)) fun _ => ?_
        rcases hat with ⟨_, hno⟩ | ⟨r, hr, rfl, hel, hsb, hbest⟩
        · exfalso
          obtain ⟨w, w1, w2⟩ := hsp.sound n.toNat (by omega) (by rw [Int.toNat_of_nonneg hn.1]; exact hpos)
          rw [Int.toNat_of_nonneg hn.1] at w1 w2
          obtain ⟨r, hr, e1, e2, e3⟩ := elig hv hsp (dn done) w1 0 (Int.le_refl _) (by
            simp only [lenR]
            rw [if_neg (by simp), if_neg (by omega)]; omega) ⟨_, List.mem_singleton_self _, rfl, hnd⟩
          exact hno r hr ⟨e1, e2, e3⟩
        · have hrl := (hv.ok r hr).1.left
          have hleast : LW g r.left (wcat (wdOf words) r.right) := best_least hv hsp (D := dn done) hLW hr hel.1 hel.2.2 fun r' hr' x1 x2 x3 => hbest r' hr' ⟨x1, x2, x3⟩
          have hrlt : r.left.toNat < done.length := by omega
          have hfalse : done[r.left.toNat] = false := by
            rw [← Bool.not_eq_true]; intro ht
            exact hel.1 ⟨hrl.1, by unfold dnOf; rw [List.getD_eq_getElem?_getD, List.getElem?_eq_getElem hrlt]; exact ht⟩
          have hwlen : (wcat (wdOf words) r.right).length ≤ 16777216 := by
            have hc := hsp.comp r.left _ hleast.1
            obtain ⟨w, w1, w2⟩ := hsp.sound r.left.toNat (by omega) (by rw [Int.toNat_of_nonneg hrl.1]; exact hc.1)
            rw [Int.toNat_of_nonneg hrl.1] at w1 w2
            have := (hleast.2 w w1).len
            have hlt : r.left.toNat < lens.length := by omega
            have h16 := LenSpec.small hv hsp _ (List.getElem_mem hlt)
            have := atI_get (n := r.left) (List.getElem?_eq_getElem hlt)
            omega
          refine h5.set hrl.1 (by omega) hdl hssl hsb fun L6 h6 => ?_
          refine ih (falses (done.set r.left.toNat true)) ?_ _ _ _ L6 rfl h6 (fun m hm => ?_) fun w hw => ?_
          · have := countB_set (p := fun b => !b) (v := true) hrlt
            rw [hfalse] at this
            have e : falses (done.set r.left.toNat true) + 1 = falses done := by simpa [falses] using this
            omega
          · by_cases e : m = r.left
            · subst e
              have : wdOf (words.set r.left.toNat (wcat (wdOf words) r.right)) r.left = wcat (wdOf words) r.right := by
                unfold wdOf; rw [List.getD_eq_getElem?_getD, List.getElem?_set_self (by omega)]; rfl
              rw [this]; exact hleast
            · have hmn : r.left.toNat ≠ m.toNat := fun h => e (by have := hm.1; omega)
              have e1 : wdOf (words.set r.left.toNat (wcat (wdOf words) r.right)) m = wdOf words m := by
                unfold wdOf; rw [List.getD_eq_getElem?_getD, List.getElem?_set_ne hmn, ← List.getD_eq_getElem?_getD]
              rw [e1]
              refine hLW m ⟨hm.1, ?_⟩
              have := hm.2
              unfold dnOf at this ⊢
              rw [List.getD_eq_getElem?_getD, List.getElem?_set_ne hmn, ← List.getD_eq_getElem?_getD] at this
              exact this
          · rcases List.mem_or_eq_of_mem_set hw with hw | rfl
            · exact hB w hw
            · exact hwlen
      · intro k hk ihk L5 at_ sb h5 hat
        rw [List.take_succ_eq_append_getElem hk] at ihk
        have hle5 := h5.base
        have hs5 := hs.mono hle5.toLeM
        obtain ⟨⟨hrl, hrt⟩, hlen⟩ := hv.ok _ (List.getElem_mem hk)
        have next : ∀ (L6 : GHeap) (at' : Int) (sb' : Sl), LWS L3 L6 b1 b2 g.nons.toNat ss words done →
            Hid ((at' = -1 ∧ ∀ r ∈ g.rules.take k ++ [g.rules[k]], ¬ El r) ∨ (∃ r ∈ g.rules, at' = r.left ∧ El r ∧ IsSl rI (L6.off (fun b => b = b1 ∨ b = b2)) sb' (wcat (wdOf words) r.right) ∧ ∀ r' ∈ g.rules.take k ++ [g.rules[k]], El r' → leW (wcat (wdOf words) r.right) (wcat (wdOf words) r'.right))) →
            useful_Least.c21 (LeastPost L g n) n sl ⟨some ⟨b1, 0, none⟩, g.nons.toNat, g.nons.toNat⟩ ⟨some ⟨b2, 0, none⟩, g.nons.toNat, g.nons.toNat⟩ at' sb' sg ((sg.n : Nat) : Int) ((k : Nat) : Int) g.terms g.nons g.start sg L6 := by
          intro L6 at' sb' g1 g2
          apply useful_Least.go21
          unfold useful_Least.t21
          rw [add_one (by omega)]
          exact ihk L6 at' sb' g1 g2
        have skip : ∀ L6, Le L5 L6 → ¬ El g.rules[k] → useful_Least.c21 (LeastPost L g n) n sl ⟨some ⟨b1, 0, none⟩, g.nons.toNat, g.nons.toNat⟩ ⟨some ⟨b2, 0, none⟩, g.nons.toNat, g.nons.toNat⟩ at_ sb sg ((sg.n : Nat) : Int) ((k : Nat) : Int) g.terms g.nons g.start sg L6 := by
          intro L6 hle6 hno
          refine next L6 at_ sb (h5.mono hle6) ?_
          rcases hat with ⟨e, hn'⟩ | ⟨r, hr, e, hel, hsb, hbest⟩
          · refine Or.inl ⟨e, fun r hr => ?_⟩
            rcases List.mem_append.1 hr with hr | hr
            · exact hn' r hr
            · rw [List.mem_singleton] at hr; subst hr; exact hno
          · refine Or.inr ⟨r, hr, e, hel, hsb.mono hle6.offM.toLeM, fun r' hr' hel' => ?_⟩
            rcases List.mem_append.1 hr' with hr' | hr'
            · exact hbest r' hr' hel'
            · rw [List.mem_singleton] at hr'; subst hr'; exact absurd hel' hno
        apply useful_Least.go15
        refine bcD (fun _ => ?_) fun h => absurd (by rw [hs5.n]; omega) h
        refine hs5.get (List.getElem?_eq_getElem hk) fun a cs hK hc => ?_
        obtain ⟨sr, rfl, hsr⟩ := hK
        have hrlt : g.rules[k].left.toNat < done.length := by omega
        refine ⟨_, _, hc, ?_⟩
        refine h5.p2.getI hrl.1 (List.getElem?_eq_getElem hrlt) fun a2 hc2 => ⟨_, hc2, bcI (fun hdt => ?_) fun hdf => ?_⟩
        · refine skip L5 (.refl _) fun hel => hel.1 ⟨hrl.1, ?_⟩
          unfold dnOf; rw [List.getD_eq_getElem?_getD, List.getElem?_eq_getElem hrlt]; exact hdt
        have hundone : ¬ dn done g.rules[k].left := fun hd' => by
          have := hd'.2
          unfold dnOf at this
          rw [List.getD_eq_getElem?_getD, List.getElem?_eq_getElem hrlt] at this
          have this : done[g.rules[k].left.toNat] = true := this
          rw [hdf] at this; cases this
        have hllt : g.rules[k].left.toNat < lens.length := by omega
        have hla := atI_get (n := g.rules[k].left) (List.getElem?_eq_getElem hllt)
        have hl5 := hl.mono hle5.toLeM
        have hlr := length_ro (left := g.rules[k].left) hsr hl5 (fun s hs ht => by have h3 := hrt s hs; have := h3.2.2 ht; exact ⟨h3.1, by omega⟩) (fun v hm => by have := LenSpec.small hv hsp v hm; omega) (by omega)
        -- then its word
        have c18 : lenR lens g.rules[k].right 0 = atI lens g.rules[k].left → useful_Least.c18 (LeastPost L g n) n sl ⟨some ⟨b1, 0, none⟩, g.nons.toNat, g.nons.toNat⟩ ⟨some ⟨b2, 0, none⟩, g.nons.toNat, g.nons.toNat⟩ at_ sb sg ((sg.n : Nat) : Int) ((k : Nat) : Int) g.terms g.nons g.start sg g.rules[k].left sr L5 := by
          intro he
          apply useful_Least.go18
          refine (word_spec (left := g.rules[k].left) hsr h5.isSl h5.p2.isBool (by omega) (fun s hs ht => by have h3 := hrt s hs; have := h3.2.2 ht; exact ⟨h3.1, by omega⟩) hB hlen).mono ?_
          rintro v L6 ⟨hle6, hcase⟩
          rcases hcase with ⟨so, rfl, hso, hall⟩ | ⟨rfl, s, hs', ht, hnd'⟩
          · have hel : El g.rules[k] := ⟨hundone, he, fun s hs ht => ⟨(hrt s hs).1, hall s hs ht⟩⟩
            have h6 := h5.mono hle6
            have hso6 := h5.own (by omega) hso
            have hwcl := wcat_len (wd := wdOf words) (B := 16777216) (by omega) (fun m => by
              unfold wdOf
              rw [List.getD_eq_getElem?_getD]
              by_cases h : m.toNat < words.length
              · rw [List.getElem?_eq_getElem h]; exact hB _ (List.getElem_mem h)
              · rw [List.getElem?_eq_none (by omega)]; simp) g.rules[k].right
            have hwcl' : (wcat (wdOf words) g.rules[k].right).length ≤ 67108864 := Nat.le_trans hwcl (Nat.mul_le_mul_right _ hlen)
            have take : (∀ r' ∈ g.rules.take k, El r' → leW (wcat (wdOf words) g.rules[k].right) (wcat (wdOf words) r'.right)) → ∀ L7, Le L6 L7 → useful_Least.c20 (LeastPost L g n) n sl ⟨some ⟨b1, 0, none⟩, g.nons.toNat, g.nons.toNat⟩ ⟨some ⟨b2, 0, none⟩, g.nons.toNat, g.nons.toNat⟩ so sg ((sg.n : Nat) : Int) ((k : Nat) : Int) g.terms g.nons g.start sg g.rules[k].left sr L7 := by
              intro hmin L7 hle7
              apply useful_Least.go20
              unfold useful_Least.t20
              refine next L7 _ so (h6.mono hle7) (Or.inr ⟨_, List.getElem_mem hk, rfl, hel, hso6.mono hle7.offM.toLeM, fun r' hr' hel' => ?_⟩)
              rcases List.mem_append.1 hr' with hr' | hr'
              · exact hmin r' hr' hel'
              · rw [List.mem_singleton] at hr'; subst hr'; exact .refl _
            refine ⟨so, true, rfl, ?_⟩
            apply useful_Least.go19
            refine bcT rfl ?_
            rcases hat with ⟨rfl, hno⟩ | ⟨r, hr, rfl, hel0, hsb, hbest⟩
            · refine bcD (fun _ => take (fun r' hr' hel' => absurd hel' (hno r' hr')) L6 (.refl _)) fun h => absurd (by omega) h
            · have hrl0 := (hv.ok r hr).1.left
              refine bcD (fun h => by omega) fun _ => ?_
              have hsb6 := (hsb.mono hle6.offM.toLeM)
              refine (before_ro hso.sl (hsb6.mono off_le) (by omega)).use ⟨_, rfl, bcD (fun hlt => take (fun r' hr' hel' => (leW_of_lt hlt).trans (hbest r' hr' hel')) L6 (.refl _)) fun hnlt => ?_⟩
              refine next L6 _ sb h6 (Or.inr ⟨r, hr, rfl, hel0, hsb6, fun r' hr' hel' => ?_⟩)
              rcases List.mem_append.1 hr' with hr' | hr'
              · exact hbest r' hr' hel'
              · rw [List.mem_singleton] at hr'; subst hr'; exact leW_of_not hnlt
          · refine ⟨⟨none, 0, 0⟩, false, rfl, ?_⟩
            apply useful_Least.go19
            exact bcF rfl (skip L6 hle6 fun hel => hnd' (hel.2.2 s hs' ht).2)
        have no : lenR lens g.rules[k].right 0 ≠ atI lens g.rules[k].left → useful_Least.c21 (LeastPost L g n) n sl ⟨some ⟨b1, 0, none⟩, g.nons.toNat, g.nons.toNat⟩ ⟨some ⟨b2, 0, none⟩, g.nons.toNat, g.nons.toNat⟩ at_ sb sg ((sg.n : Nat) : Int) ((k : Nat) : Int) g.terms g.nons g.start sg L5 := fun hne => skip L5 (.refl _) fun hel => hne hel.2.1
        refine hl5.getI hrl.1 (List.getElem?_eq_getElem hllt) fun a3 cs3 hK3 hc3 => ?_
        obtain rfl := hK3
        refine ⟨hlr.use ⟨_, rfl, _, reads_one hc3, bcNE (fun h => no (by rw [hla]; exact h)) fun h => c18 (by rw [hla]; exact h)⟩, ⟨_, reads_one hc3, hlr.use ⟨_, rfl, bcNE (fun h => no (by rw [hla]; exact h)) fun h => c18 (by rw [hla]; exact h)⟩⟩⟩
    exact loop 0 (Nat.zero_le _) L4 (-1) ⟨none, 0, 0⟩ h (Or.inl ⟨rfl, fun r hr => by cases hr⟩)
end Go.Proofs.YtjmpheidcofhnaaDoor
