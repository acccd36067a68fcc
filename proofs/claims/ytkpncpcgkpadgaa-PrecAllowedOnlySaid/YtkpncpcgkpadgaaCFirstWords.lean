/- The word of a tree begins with a terminal of First of its root; if it is empty, its root is in Null: the walk of parlkeep2.FirstWords. -/
import Derived.Test.YtkpncpcgkpadgaaVAll4
import Derived.Test.YtkpncpcgkpadgaaCFirst2
import Derived.Test.YtkpncpcgkpadgaaCTree2
import Derived.Test.YtkpncpcgkpadgaaCWorks
set_option linter.all false
namespace Go.Proofs.Ytkpncpcgkpadgaa
open Go Go.Proofs.Ytkpncpcgkpadgaa.GH

/-- The terminals of a derived word. -/
theorem ds_terms {p : Gram} {ss : List Sym} {v : List Int} (hp : Valid p) (hd : Ds p ss v) : (∀ s ∈ ss, SymOk p.terms p.nons s) → ∀ x ∈ v, 0 ≤ x ∧ x < p.terms := by
  induction hd with
  | nil => intro _ x hx; cases hx
  | @term a ss v _ ih =>
    intro hs x hx
    rcases List.mem_cons.1 hx with rfl | hx
    · have := hs ⟨true, x⟩ (List.mem_cons_self ..)
      exact ⟨this.1, this.2.1 rfl⟩
    · exact ih (fun s h => hs s (List.mem_cons_of_mem _ h)) x hx
  | @non r ss u v hr _ _ ih1 ih2 =>
    intro hs x hx
    rcases List.mem_append.1 hx with hx | hx
    · exact ih1 (hp.ok r hr).1.right x hx
    · exact ih2 (fun s h => hs s (List.mem_cons_of_mem _ h)) x hx

theorem FirstWords_spec {L : GHeap} {s0 s1 : Sl} {xs ys : List Int} (h0 : IsSl rI L s0 xs) (h1 : IsSl rI L s1 ys) : ACalls PP parlkeep2_FirstWords.id [.slice s0.a s0.n s0.c, .slice s1.a s1.n s1.c] L fun v L' => v = .bool true ∧ Le L L' := by
  apply parlkeep2_FirstWords.go
  refine (Grammar_spec h0).mono ?_
  rintro v L1 ⟨g, sg, rfl, hg, hle1, hsg⟩
  have hv := hg.valid
  have hst := hg.start
  have hnn := hg.nons
  refine ⟨_, _, _, sg, rfl, (makeTree_spec hv hsg (h1.mono hle1.toLeM)).mono ?_⟩
  rintro v L2 ⟨hle2, T, sT, bT, rfl, hT, hbT⟩
  refine ⟨_, _, sT, bT, rfl, (Null_spec hv (hsg.mono hle2.toLeM)).mono ?_⟩
  rintro v L3 ⟨hle3, sn, lens, rfl, hsn, hsp⟩
  refine ⟨sn, _, rfl, (First_spec hv (hsg.mono (hle2.trans hle3).toLeM)).mono ?_⟩
  rintro v L4 ⟨hle4, sf, rows, rfl, hsf, hfs⟩
  refine ⟨sf, _, rfl, works_spec.mono ?_⟩
  rintro v L5 ⟨rfl, hle5⟩
  have hsn5 := hsn.mono (hle4.trans hle5).toLeM
  have hsf5 := hsf.mono hle5.toLeM
  have hnull := hsp.null
  have hnl := hnull.1
  have hfl := hfs.len
  have hle := (((hle1.trans hle2).trans hle3).trans hle4).trans hle5
  refine ⟨true, rfl, bcF rfl (bcNE (fun h => absurd rfl h) fun _ => bcNE (fun h => absurd rfl h) fun _ => bcNE (fun h => absurd (by rw [hsn5.n]; omega) h) fun _ => bcNE (fun h => absurd (by rw [hsf5.n]; omega) h) fun _ => bcN (bcI (fun hb => ?_) fun _ => ⟨rfl, hle⟩))⟩
  obtain ⟨n1, w1⟩ := hbT hb
  refine (Yield_spec T (hT.mono ((hle3.trans hle4).trans hle5).toLeM) (by omega)).mono ?_
  rintro v L6 ⟨hle6, sy, rfl, hoy⟩
  have hd := WT.ds T w1
  have hsy := hoy.sl
  have hyn := hsy.n
  have es : g.start = ((g.start.toNat : Nat) : Int) := by omega
  refine ⟨sy, rfl, bcE (fun he => ?_) fun he => ?_⟩
  · have hy : T.yield = [] := List.eq_nil_of_length_eq_zero (by omega)
    rw [hy] at hd
    have hlt : g.start.toNat < (lens.map fun k => k == 0).length := by omega
    refine (hsn5.mono hle6.toLeM).getI hst.1 (List.getElem?_eq_getElem hlt) fun a cs hK hc => ?_
    obtain rfl := hK
    refine ⟨_, reads_one hc, ?_, hle.trans hle6⟩
    have := (hnull.2 g.start.toNat (by omega)).2 (by rw [← es]; exact hd)
    rw [List.getD_eq_getElem?_getD, List.getElem?_eq_getElem hlt] at this
    congr 1
  · cases hy : T.yield with
    | nil => rw [hy] at hyn; simp at hyn; omega
    | cons x xs =>
    rw [hy] at hd hsy
    have hx := ds_terms hv hd (fun s hs => by rw [List.mem_singleton] at hs; subst hs; exact ⟨hst.1, (fun h => by cases h), fun _ => hst.2⟩) x (List.mem_cons_self ..)
    have hlt : g.start.toNat < rows.length := by omega
    have hrow := hfs.row _ (List.getElem_mem hlt)
    have ex : x = ((x.toNat : Nat) : Int) := by omega
    have hf := (hfs.iff_ g.start.toNat x.toNat (by omega) (by omega)).2 (by rw [← es, ← ex]; exact fst_of_ds hd x xs rfl)
    rw [cellB_get hlt] at hf
    have hxl : x.toNat < rows[g.start.toNat].length := by omega
    refine (hsf5.mono hle6.toLeM).getI hst.1 (List.getElem?_eq_getElem hlt) fun a cs hK hc => ?_
    obtain ⟨sr, rfl, hsr⟩ := hK
    have hsrn := hsr.n
    refine ⟨sr, reads_one hc, ?_⟩
    have rd : ∀ {k : Int → Prop}, k x → ptrK sy.a fun a => (0 ≤ (0 : Int) ∧ (0 : Int) < ((sy.n : Nat) : Int)) ∧ ∃ y : Int, L6.mem (Addr.add a (Int.toNat (0 : Int) * 1)) = some (.int .i64 y) ∧ k y := by
      intro k hk
      refine hsy.get (i := 0) (x := x) rfl fun a cs hK hc => ?_
      obtain rfl := hK
      exact ⟨x, reads_one hc, hk⟩
    refine rd (bcD (fun _ => rd (bcD (fun _ => rd ?_) fun h => absurd ?_ h)) fun h => absurd hx.1 h)
    · refine hsr.getI hx.1 (List.getElem?_eq_getElem hxl) fun a cs hK hc => ?_
      obtain rfl := hK
      refine ⟨_, reads_one hc, ?_, hle.trans hle6⟩
      rw [List.getD_eq_getElem?_getD, List.getElem?_eq_getElem hxl] at hf
      congr 1
    · omega
end Go.Proofs.Ytkpncpcgkpadgaa
