/- Package first: Of; grammars that are not valid. -/
import Derived.Test.YtjmpheidcofhnaaDoorVAll3
import Derived.Test.YtjmpheidcofhnaaDoorCFirstOf
import Derived.Test.YtjmpheidcofhnaaDoorCBadL
set_option linter.all false
namespace Go.Proofs.YtjmpheidcofhnaaDoor
open Go Go.Proofs.YtjmpheidcofhnaaDoor.GH

section
variable {L : GHeap} {g : Gram} {sg : Sl}
theorem Null_bad (hs : IsSl rRule L sg g.rules) (h : chk g ≠ 0) : RO PP first_Null.id [gramV g sg] L (.tuple #[.slice none 0 0, .int .i64 (chk g)]) := by
  apply first_Null.go
  exact (Lengths_bad hs h).use ⟨⟨none, 0, 0⟩, _, rfl, bcNE (fun _ => ⟨rfl, rfl⟩) fun h' => absurd h' h⟩
theorem First_bad (hs : IsSl rRule L sg g.rules) (h : chk g ≠ 0) : RO PP first_First.id [gramV g sg] L (.tuple #[.slice none 0 0, .int .i64 (chk g)]) := by
  apply first_First.go
  exact (Null_bad hs h).use ⟨⟨none, 0, 0⟩, _, rfl, bcNE (fun _ => ⟨rfl, rfl⟩) fun h' => absurd h' h⟩
theorem fOf_bad {sl : Sl} (hs : IsSl rRule L sg g.rules) (h : chk g ≠ 0) : RO PP first_Of.id [gramV g sg, .slice sl.a sl.n sl.c] L (.tuple #[.slice none 0 0, .bool false, .int .i64 (chk g)]) := by
  apply first_Of.go
  exact (First_bad hs h).use ⟨⟨none, 0, 0⟩, _, rfl, bcNE (fun _ => ⟨rfl, rfl⟩) fun h' => absurd h' h⟩

def FOfPost (L : GHeap) (g : Gram) (lens : List Int) (l : List Sym) (v : Value) (L' : GHeap) : Prop :=
  Le L L' ∧ ∃ (so : Sl) (is_ : Bool) (e : Int) (out : List Bool), v = .tuple #[.slice so.a so.n so.c, .bool is_, .int .i64 e] ∧ IsSl rB L' so out ∧
    ((∀ s ∈ l, SymOk g.terms g.nons s) → e = 0 ∧ is_ = l.all (emp (lens.map fun k => k == 0)) ∧ FstL g l out) ∧ ((¬ ∀ s ∈ l, SymOk g.terms g.nons s) → e = 3 ∧ is_ = false ∧ out = [])

theorem fOf_spec {lens : List Int} {sl : Sl} {l : List Sym} (hv : Valid g) (hsp : LenSpec g lens) (hs : IsSl rRule L sg g.rules) (hl : IsSl rSym L sl l) (hb : l.length ≤ 1048576) : ACalls PP first_Of.id [gramV g sg, .slice sl.a sl.n sl.c] L (FOfPost L g lens l) := by
  have ht := hv.terms
  apply first_Of.go
  refine (First_spec hv hs).mono ?_
  rintro v L1 ⟨hle1, sf, rows, rfl, hrows, hfs⟩
  have hl1 := hl.mono hle1.toLeM
  have hln := hl.n
  refine ⟨sf, 0, rfl, bcNE (fun h => absurd rfl h) fun _ => ?_⟩
  have bad : (¬ ∀ s ∈ l, SymOk g.terms g.nons s) → first_Of.c8 (FOfPost L g lens l) L1 := fun hno => by
    apply first_Of.go8
    exact ⟨hle1, ⟨none, 0, 0⟩, false, 3, [], rfl, .nil _ _ _ _, fun h => absurd h hno, fun _ => ⟨rfl, rfl, rfl⟩⟩
  have key : ∀ i, i ≤ l.length → (∀ s ∈ l.take i, SymOk g.terms g.nons s) → first_Of.c5 (FOfPost L g lens l) sl sf sl ((sl.n : Nat) : Int) ((i : Nat) : Int) g.terms g.nons g.start sg L1 := by
    refine down ?_ ?_
    · intro hall
      rw [List.take_length] at hall
      apply first_Of.go5
      refine bcD (fun h => absurd h (by omega)) fun _ => (Null_spec hv (hs.mono hle1.toLeM)).mono ?_
      rintro v L2 ⟨hle2, sn, lens', rfl, hn, hsp'⟩
      obtain rfl := hsp'.one hv hsp
      have hnu := hsp.null
      have hnl := hnu.1
      have hnn := hv.nons
      refine ⟨sn, 0, rfl, (begins_spec ht (hl1.mono hle2.toLeM) hn (hrows.mono hle2.toLeM) (fun s hs' => ?_) (by rw [hfs.len, hnl]) hfs.row hb).mono ?_⟩
      · have h := hall s hs'
        exact ⟨h.1, h.2.1, fun h' => by have := h.2.2 h'; omega⟩
      · rintro v L3 ⟨b, hub, rfl, hp, hoff⟩
        refine ⟨⟨some ⟨b, 0, none⟩, g.terms.toNat, g.terms.toNat⟩, _, rfl, (hle1.trans hle2).trans (by have := off_Le (M := (· = b)) (L := L3); rw [hoff] at this; exact this), _, _, 0, _, rfl, hp.isBool, fun _ => ⟨rfl, begL_all (g := g), begL_fstL hv hnu hfs hall⟩, fun h => absurd hall h⟩
    · intro i hi ih hall
      rw [List.take_succ_eq_append_getElem hi] at ih
      have nx : SymOk g.terms g.nons l[i] → first_Of.c9 (FOfPost L g lens l) sl sf sl ((sl.n : Nat) : Int) ((i : Nat) : Int) g.terms g.nons g.start sg L1 := fun hk => by
        apply first_Of.go9
        unfold first_Of.t9
        rw [add_one (by omega)]
        refine ih fun s hs' => ?_
        rcases List.mem_append.1 hs' with h | h
        · exact hall s h
        · rw [List.mem_singleton] at h; subst h; exact hk
      have no : ¬ SymOk g.terms g.nons l[i] → first_Of.c8 (FOfPost L g lens l) L1 := fun hk => bad fun h => hk (h _ (List.getElem_mem hi))
      apply first_Of.go5
      refine bcD (fun _ => ?_) fun h => absurd (by omega) h
      refine hl1.get (List.getElem?_eq_getElem hi) fun a cs hK hc => ?_
      obtain rfl := hK
      refine ⟨_, _, hc, bcD (fun h => no fun hk => by have := hk.1; omega) fun h0 => bcI (fun htm => bcD (fun h => no fun hk => by have := hk.2.1 htm; omega) fun h1 => bcN (bcT htm (nx ⟨by omega, fun _ => by omega, fun hf => by rw [htm] at hf; cases hf⟩))) fun htm => bcN (bcF htm (bcD (fun h => no fun hk => by have := hk.2.2 htm; omega) fun h1 => nx ⟨by omega, fun hf => (by rw [htm] at hf; cases hf), fun _ => by omega⟩))⟩
  exact key 0 (Nat.zero_le _) (by simp)
end
end Go.Proofs.YtjmpheidcofhnaaDoor
