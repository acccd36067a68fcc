/- parlref2.InlineOf. -/
import Derived.Test.YtjmpheidcofhnaaDoorCFill
import Derived.Test.YtjmpheidcofhnaaDoorCGramErr2
set_option linter.all false
namespace Go.Proofs.YtjmpheidcofhnaaDoor
open Go Go.Proofs.YtjmpheidcofhnaaDoor.GH

section
variable {g : Gram} {n : Int}

theorem foldl_lng : ∀ {ss : List Sym} {acc : List (List Sym × List Int)}, ss.foldl (lngL g n) acc = acc.flatMap fun x => ss.foldl (lngL g n) [x]
  | [], acc => by simp
  | s :: ss, acc => by
    simp only [List.foldl_cons]
    rw [foldl_lng (ss := ss) (acc := lngL g n acc s)]
    have e : ∀ x, (ss.foldl (lngL g n) (lngL g n [x] s)) = (lngE g n s x).flatMap fun y => ss.foldl (lngL g n) [y] := fun x => by
      rw [foldl_lng (ss := ss) (acc := lngL g n [x] s)]
      unfold lngL; simp
    simp only [e]
    unfold lngL
    rw [List.flatMap_assoc]

theorem fill_exps {left : Int} : ∀ {ss done : List Sym} {used : List Int}, fillL g n left ss done used = (ss.foldl (lngL g n) [(done, used)]).map fun x : List Sym × List Int => ((⟨left, x.1⟩ : Rule), x.2)
  | [], done, used => rfl
  | s :: ss, done, used => by
    simp only [fillL, List.foldl_cons]
    have e1 : lngL g n [(done, used)] s = lngE g n s (done, used) := by unfold lngL; simp
    rw [e1]
    unfold lngE
    by_cases h : isN n s = true
    · rw [if_pos h, if_pos h, foldl_lng, List.map_flatMap, List.flatMap_map]
      simp only [fill_exps]
    · rw [if_neg h, if_neg h]
      exact fill_exps
end

def IoPost (L : GHeap) (g : Gram) (n : Int) (v : Value) (L' : GHeap) : Prop := Le L L' ∧
  ((InlOk g n ∧ ∃ so sf : Sl, v = .tuple #[gramV (inlG g n) so, .slice sf.a sf.n sf.c, .int .i64 0] ∧ IsSl rRule L' so (inlG g n).rules ∧ IsSl (rS rI) L' sf (inlF g n)) ∨
   (∃ e : Int, InlE g n e ∧ e ≠ 0 ∧ v = .tuple #[.agg #[.int .i64 0, .int .i64 0, .int .i64 0, .slice none 0 0], .slice none 0 0, .int .i64 e]))

section
variable {L0 Lb L : GHeap} {g : Gram} {b9 b10 : Nat} {ca cb so sf : Sl} {R : List Rule} {F : List (List Int)} {Q : GHeap → Prop}
theorem fw_one (w : FW L0 Lb g b9 b10 ca cb so sf R F Q L) {i : Int} {b : Nat} (hu : L.unused b) {k : GHeap → Prop}
    (hk : ∀ L', FW L0 Lb g b9 b10 ca cb so sf R F (fun H => Q H ∧ IsSl rI H ⟨some ⟨b, 0, none⟩, 1, 1⟩ [i]) L' → k L') : inL (L.alloc b [.int .i64 i] 1) k := by
  have hb := w.live.not hu
  have e := off_alloc (L := L) (cs := [.int .i64 i]) (n := 1) hb
  have hu' := unused_off (M := MM b9 b10) hu
  have le := Le.alloc hu' [.int .i64 i] 1
  refine inLI (hk _ (w.grow (SameOn.alloc hb) (by rw [e]; exact le) (by
    rw [e]
    exact ⟨w.mono _ _ le.toLeM w.q, IsSl.of_cells (Cells.cons (R := rI) (c := [.int .i64 i]) rfl .nil) rfl (Nat.le_refl _) alloc_reads⟩) fun H H' h q => ⟨w.mono _ _ h q.1, q.2.mono h⟩))
end

section
variable {L : GHeap} {g : Gram} {sg : Sl} {n : Int}

theorem InlineOf_spec (hv : Valid g) (hn : 0 ≤ n ∧ n < g.nons) (hs : IsSl rRule L sg g.rules) : ACalls PP parlref2_InlineOf.id [gramV g sg, .int .i64 n] L (IoPost L g n) := by
  have hmany := hv.many
  have hsn := hs.n
  apply parlref2_InlineOf.go
  intro b2 hu2
  refine inLI ?_
  have le2 := Le.alloc hu2 [.int .i64 g.terms, .int .i64 g.nons, .int .i64 g.start, .slice sg.a sg.n sg.c] 4
  have k2 : ∀ i v, [Value.int .i64 g.terms, .int .i64 g.nons, .int .i64 g.start, .slice sg.a sg.n sg.c][i]? = some v → (L.alloc b2 [.int .i64 g.terms, .int .i64 g.nons, .int .i64 g.start, .slice sg.a sg.n sg.c] 4).mem ⟨b2, i, none⟩ = some v := fun i v h => by rw [alloc_mem]; exact h
  generalize L.alloc b2 [.int .i64 g.terms, .int .i64 g.nons, .int .i64 g.start, .slice sg.a sg.n sg.c] 4 = L1 at *
  intro b3 hu3
  refine inLI ?_
  have le3 := Le.alloc hu3 [.int .i64 n] 1
  have k3 : (L1.alloc b3 [.int .i64 n] 1).mem ⟨b3, 0, none⟩ = some (.int .i64 n) := by rw [alloc_mem]; rfl
  have q2 : ∀ i v, [Value.int .i64 g.terms, .int .i64 g.nons, .int .i64 g.start, .slice sg.a sg.n sg.c][i]? = some v → (L1.alloc b3 [.int .i64 n] 1).mem ⟨b2, i, none⟩ = some v := fun i v h => le3.mem _ _ (k2 i v h)
  have h03 := le2.trans le3
  generalize L1.alloc b3 [.int .i64 n] 1 = L3 at *
  have hs3 := hs.mono h03.toLeM
  have err : ∀ (e : Int) (L' : GHeap), InlE g n e → e ≠ 0 → Le L L' → IoPost L g n (.tuple #[.agg #[.int .i64 0, .int .i64 0, .int .i64 0, .slice none 0 0], .slice none 0 0, .int .i64 e]) L' := fun e L' h1 h2 h3 => ⟨h3, .inr ⟨e, h1, h2, rfl⟩⟩
  refine ⟨n, k3, g.start, q2 2 _ rfl, bcE (fun hns => err 7 L3 (.inl ⟨rfl, hns⟩) (by omega) h03) fun hns => ⟨sg, q2 3 _ rfl, ?_⟩⟩
  have first : ∀ i, i ≤ g.rules.length → (∀ (j : Nat) (r : Rule), j < i → g.rules[j]? = some r → r.left = n → (⟨false, n⟩ : Sym) ∉ r.right) →
      parlref2_InlineOf.c4 (IoPost L g n) ⟨b2, 0, none⟩ ⟨b3, 0, none⟩ sg ((sg.n : Nat) : Int) ((i : Nat) : Int) 0 0 0 ⟨none, 0, 0⟩ L3 := by
    refine down ?_ ?_
    · intro hall
      have hno : ∀ i ∈ inOwn g n, (⟨false, n⟩ : Sym) ∉ rgt g i := fun i hi => by
        obtain ⟨j, r, rfl, h1, h2⟩ := mem_inOwn.1 hi
        rw [rgt_at h1]
        exact hall j r (List.getElem?_eq_some_iff.1 h1).1 h1 h2
      apply parlref2_InlineOf.go4
      refine bcD (fun h => absurd h (by omega)) fun _ => ⟨g.terms, q2 0 _ rfl, g.nons, q2 1 _ rfl, g.start, q2 2 _ rfl, ?_⟩
      intro b9 hu9
      refine inLI ?_
      obtain ⟨p9, o9⟩ := PV.new (L0 := L3) (vs := [.int .i64 0, .int .i64 0, .int .i64 0, .slice none 0 0]) (tot := 4) hu9 (.refl L3) (by simp)
      refine ⟨p9.may (o := 0) (n := 4) (by simp), inLI ?_⟩
      obtain ⟨p9', o9'⟩ := p9.set (o := 0) (ws := [.int .i64 g.terms, .int .i64 g.nons, .int .i64 g.start, .slice none 0 0]) (by simp)
      have esp : splice [Value.int .i64 0, .int .i64 0, .int .i64 0, .slice none 0 0] 0 [.int .i64 g.terms, .int .i64 g.nons, .int .i64 g.start, .slice none 0 0] = [.int .i64 g.terms, .int .i64 g.nons, .int .i64 g.start, .slice none 0 0] := rfl
      rw [esp] at p9'
      have h36 := p9'.le (by rw [o9', o9]; exact .refl L3)
      clear p9 o9 o9'
      generalize (L3.alloc b9 [.int .i64 0, .int .i64 0, .int .i64 0, .slice none 0 0] 4).sets ⟨b9, 0, none⟩ 0 [.int .i64 g.terms, .int .i64 g.nons, .int .i64 g.start, .slice none 0 0] = L6 at *
      have live9 : Live (· = b9) L6 := p9'.live (by simp)
      intro b10 hu10
      refine inLI ?_
      have ne : b10 ≠ b9 := live9.not hu10
      have le7 := Le.alloc hu10 [.slice none 0 0] 1
      obtain ⟨p10, _⟩ := PV.new (L0 := L3) (vs := [.slice none 0 0]) (tot := 1) hu10 h36.toLeM (by simp)
      have p9'' := p9'.same (M := (· = b9)) (SameOn.alloc (b := b10) (cs := [.slice none 0 0]) (n := 1) ne) rfl
      generalize L6.alloc b10 [.slice none 0 0] 1 = L7 at *
      have live10 : Live (· = b10) L7 := p10.live (by simp)
      have live9' : Live (· = b9) L7 := p9''.live (by simp)
      intro b11 hu11
      refine inLI ?_
      obtain ⟨d1, d2, d3, d4⟩ := cell_new hu11 .nilFunc (.func (.func parlref2_InlineOf_1.id) #[] #[.pointer (some ⟨b9, 0, none⟩), .pointer (some ⟨b10, 0, none⟩), .pointer (some ⟨b3, 0, none⟩), .pointer (some ⟨b11, 0, none⟩), .pointer (some ⟨b2, 0, none⟩)])
      have n9 : b11 ≠ b9 := live9'.not hu11
      have n10 : b11 ≠ b10 := live10.not hu11
      have P9 := p9''.same (M := (· = b9)) (d4 _ n9) rfl
      have P10 := p10.same (M := (· = b10)) (d4 _ n10) rfl
      refine ⟨d1, inLI ?_⟩
      have h38 := (h36.trans le7).trans d3
      generalize (L7.alloc b11 [.nilFunc] 1).sets ⟨b11, 0, none⟩ 0 [.func (.func parlref2_InlineOf_1.id) #[] #[.pointer (some ⟨b9, 0, none⟩), .pointer (some ⟨b10, 0, none⟩), .pointer (some ⟨b3, 0, none⟩), .pointer (some ⟨b11, 0, none⟩), .pointer (some ⟨b2, 0, none⟩)]] = L8 at *
      have hu10' : L3.unused b10 := P10.unu
      have hub : ∀ c, MM b9 b10 c → L3.unused c := fun c hc => hc.elim (fun h => h ▸ P9.unu) fun h => h ▸ hu10'
      have h3b : Le L3 (L8.off (MM b9 b10)) := le_off h38 hub
      have nM : ¬ MM b9 b10 b11 := fun h => h.elim n9 n10
      have m6 : (L8.off (MM b9 b10)).mem ⟨b3, 0, none⟩ = some (.int .i64 n) := h3b.mem _ _ k3
      have m8 : (L8.off (MM b9 b10)).mem (Addr.add ⟨b2, 0, none⟩ 3) = some (.slice sg.a sg.n sg.c) := h3b.mem _ _ (q2 3 _ rfl)
      have m7 : (L8.off (MM b9 b10)).mem ⟨b11, 0, none⟩ = some (.func (.func parlref2_InlineOf_1.id) #[] (List.toArray [.pointer (some ⟨b9, 0, none⟩), .pointer (some ⟨b10, 0, none⟩), .pointer (some ⟨b3, 0, none⟩), .pointer (some ⟨b11, 0, none⟩), .pointer (some ⟨b2, 0, none⟩)])) := by rw [off_mem nM]; exact d2
      have hsb : IsSl rRule (L8.off (MM b9 b10)) sg g.rules := hs3.mono h3b.toLeM
      refine ⟨sg, h38.mem _ _ (q2 3 _ rfl), ?_⟩
      have w0 : FW L3 (L8.off (MM b9 b10)) g b9 b10 ⟨none, 0, 0⟩ ⟨none, 0, 0⟩ ⟨none, 0, 0⟩ ⟨none, 0, 0⟩ [] [] (fun _ => True) L8 :=
        ⟨Ne.symm ne, P9, P10, .refl _, .nil _ _ _, .nil _ _ _, fun h => absurd h (Nat.lt_irrefl 0), trivial, fun _ _ _ h => h⟩
      have leOf : ∀ {L' : GHeap} {so sf : Sl} {R : List Rule} {F : List (List Int)} {Q : GHeap → Prop}, FW L3 (L8.off (MM b9 b10)) g b9 b10 so sf so sf R F Q L' → Le L L' := fun w => h03.trans (le_of_off hub (h3b.trans w.le))
      have loop : ∀ i, i ≤ g.rules.length → ∀ (so sf : Sl) (L' : GHeap), FW L3 (L8.off (MM b9 b10)) g b9 b10 so sf so sf ((inlN g n i).map Prod.fst) ((inlN g n i).map Prod.snd) (fun _ => True) L' → (inlN g n i).length ≤ 32 →
          parlref2_InlineOf.c14 (IoPost L g n) ⟨b3, 0, none⟩ ⟨b9, 0, none⟩ ⟨b10, 0, none⟩ ⟨b11, 0, none⟩ sg ((sg.n : Nat) : Int) ((i : Nat) : Int) 0 0 0 ⟨none, 0, 0⟩ L' := by
        refine down ?_ ?_
        · intro so sf L' w hl
          apply parlref2_InlineOf.go14
          refine bcD (fun h => absurd h (by omega)) fun _ => ?_
          have hrd := w.p9.reads
          refine ⟨_, _, _, so, hrd, ?_⟩
          have hso : IsSl rRule L' so (inlG g n).rules := w.ro.sl.mono off_le
          refine (GramErr_spec (g := inlG g n) hso).mono ?_
          rintro v L'' ⟨rfl, hle''⟩
          have hLL := (leOf w).trans hle''
          refine ⟨_, rfl, bcNE (fun hc => err _ L'' (.inr (.inr ⟨rfl, hns, hno⟩)) hc hLL) fun hc => ?_⟩
          have hsf : IsSl (rS rI) L'' sf (inlF g n) := (w.fo.sl.mono off_le).mono hle''.toLeM
          have fin : ∃ x80 : Sl, L''.mem ⟨b10, 0, none⟩ = some (.slice x80.a x80.n x80.c) ∧ IoPost L g n (.tuple #[.agg #[.int .i64 g.terms, .int .i64 g.nons, .int .i64 g.start, .slice so.a so.n so.c], .slice x80.a x80.n x80.c, .int .i64 0]) L'' :=
            ⟨sf, hle''.mem _ _ (fw_rd10 w), hLL, .inl ⟨⟨hns, hno, chk_zero.1 hc⟩, so, sf, rfl, hso.mono hle''.toLeM, hsf⟩⟩
          exact ⟨_, _, _, so, hle''.toLeM.reads hrd, fin, fin⟩
        · intro i hi ihi so sf L' w hl
          have hir := List.getElem?_eq_getElem hi
          have hrm := List.getElem_mem hi
          have hr4 := (hv.ok _ hrm).2
          apply parlref2_InlineOf.go14
          refine bcD (fun _ => ?_) fun h => absurd (by omega) h
          obtain ⟨aR, csR, eaR, hKR, hrR⟩ := hsb.at_ _ _ hir
          obtain ⟨sr, rfl, hsr⟩ := hKR
          have next : ∀ (so' sf' : Sl) (L'' : GHeap), FW L3 (L8.off (MM b9 b10)) g b9 b10 so' sf' so' sf' ((inlN g n (i + 1)).map Prod.fst) ((inlN g n (i + 1)).map Prod.snd) (fun _ => True) L'' → (inlN g n (i + 1)).length ≤ 32 →
              parlref2_InlineOf.c18 (IoPost L g n) ⟨b3, 0, none⟩ ⟨b9, 0, none⟩ ⟨b10, 0, none⟩ ⟨b11, 0, none⟩ sg ((sg.n : Nat) : Int) ((i : Nat) : Int) 0 0 0 ⟨none, 0, 0⟩ L'' := by
            intro so' sf' L'' w' hl'
            apply parlref2_InlineOf.go18
            unfold parlref2_InlineOf.t18
            rw [add_one (by omega)]
            exact ihi so' sf' L'' w' hl'
          refine ptr_at eaR ⟨⟨by omega, by omega⟩, _, sr, w.up.reads hrR, n, fw_mem w m6, bcNE (fun hne => ?_) fun heq => ?_⟩
          · have e : inlN g n (i + 1) = inlN g n i ++ fillL g n g.rules[i].left g.rules[i].right [] [((i : Nat) : Int)] := by
              simp only [inlN]; rw [hir]; simp only; rw [if_neg hne, fill_exps]; rfl
            refine ⟨_, _, fw_mem w m7, fun b67 hu67 => fw_one w (i := ((i : Nat) : Int)) hu67 fun L'' w1 => ?_⟩
            have w2 := fw_add w1 (X := fun H => IsSl rSym H sr g.rules[i].right) (hsr.mono w1.le.toLeM) fun H H' hl h => h.mono hl
            refine (fill_spec (left := g.rules[i].left) hv hsb m6 m7 m8 g.rules[i].right [] [((i : Nat) : Int)] _ _ _ so sf ⟨none, 0, 0⟩ sr ⟨some ⟨b67, 0, none⟩, 1, 1⟩ L'' w2 (fun H q => ⟨.nil _ _ _ _, q.2, q.1.2⟩) (by simp; omega) (by simp; omega) (by simp) (by simp; omega)).mono ?_
            rintro v La ⟨b, so', sf', R', F', rfl, wa, h1, h2⟩
            refine ⟨b, rfl, ?_⟩
            cases b with
            | true =>
              obtain ⟨e1, e2, e3⟩ := h1 rfl
              refine bcN (bcT rfl (next so' sf' La ?_ ?_))
              · rw [e, List.map_append, List.map_append, ← e1, ← e2]
                exact wa.weak (fun _ _ => trivial) fun _ _ _ h => h
              · rw [e, List.length_append]
                rw [e1] at e3
                simpa using e3
            | false =>
              have h3 := h2 rfl
              refine bcN (bcF rfl (err 2 La (.inr (.inr ⟨?_, hns, hno⟩)) (by omega) (leOf wa)))
              have hm := inlN_mono (g := g) (n := n) (i := i + 1) (k := g.rules.length) (by omega)
              rw [e, List.length_append] at hm
              rw [List.length_map] at h3
              exact (chk_many hv (by unfold inlP; omega)).symm
          · have e : inlN g n (i + 1) = inlN g n i := by simp only [inlN]; rw [hir]; simp only; rw [if_pos heq, List.append_nil]
            rw [e] at next
            exact next so sf L' w hl
      exact loop 0 (Nat.zero_le _) ⟨none, 0, 0⟩ ⟨none, 0, 0⟩ L8 w0 (by simp [inlN])
    · intro i hi ih hall
      have hir := List.getElem?_eq_getElem hi
      have hr4 := (hv.ok _ (List.getElem_mem hi)).2
      have next : (g.rules[i].left = n → (⟨false, n⟩ : Sym) ∉ g.rules[i].right) → parlref2_InlineOf.c8 (IoPost L g n) ⟨b2, 0, none⟩ ⟨b3, 0, none⟩ sg ((sg.n : Nat) : Int) ((i : Nat) : Int) 0 0 0 ⟨none, 0, 0⟩ L3 := fun h => by
        apply parlref2_InlineOf.go8
        unfold parlref2_InlineOf.t8
        rw [add_one (by omega)]
        refine ih fun j r hj hr => ?_
        by_cases e : j = i
        · subst e
          rw [hir] at hr; cases hr
          exact h
        · exact hall j r (by omega) hr
      apply parlref2_InlineOf.go4
      refine bcD (fun _ => ?_) fun h => absurd (by omega) h
      refine hs3.get hir fun a cs hK hc => ?_
      obtain ⟨sr, rfl, hsr⟩ := hK
      refine ⟨_, sr, hc, n, k3, bcE (fun heq => ⟨n, k3, (ContainsSym_ro (y := ⟨false, n⟩) hsr (by omega)).use ⟨_, rfl, bcI (fun h => ?_) fun h => next fun _ => of_decide_eq_false h⟩⟩) fun hne => next fun h => absurd h hne⟩
      exact err 9 L3 (.inr (.inl ⟨rfl, hns, (i : Int), mem_inOwn.2 ⟨i, _, rfl, hir, heq⟩, by rw [rgt_at hir]; exact of_decide_eq_true h⟩)) (by omega) h03
  exact first 0 (Nat.zero_le _) fun j r h => absurd h (Nat.not_lt_zero _)
end
end Go.Proofs.YtjmpheidcofhnaaDoor
