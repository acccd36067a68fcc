/- parlref2.InlineOf: its function that calls itself. -/
import Derived.Test.YtjmpheidcofhnaaDoorCFillW
set_option linter.all false
namespace Go.Proofs.YtjmpheidcofhnaaDoor
open Go Go.Proofs.YtjmpheidcofhnaaDoor.GH

/-- The rules that come of a list of symbols. -/
def fillL (g : Gram) (n left : Int) : List Sym → List Sym → List Int → List (Rule × List Int)
  | [], done, used => [(⟨left, done⟩, used)]
  | s :: ss, done, used => if isN n s = true then (inOwn g n).flatMap fun i => fillL g n left ss (done ++ rgt g i) (used ++ [i]) else fillL g n left ss (done ++ [s]) used

theorem whereI_app {p : Rule → Bool} : ∀ {xs ys : List Rule} {i : Nat}, whereI p i (xs ++ ys) = whereI p i xs ++ whereI p (i + xs.length) ys
  | [], _, _ => by simp [whereI]
  | x :: xs, ys, i => by
    simp only [List.cons_append, whereI, List.length_cons]
    rw [whereI_app, show i + (xs.length + 1) = i + 1 + xs.length by omega]
    split <;> simp

section
variable {L0 Lb L : GHeap} {g : Gram} {b9 b10 : Nat} {ca cb so sf : Sl} {R : List Rule} {F : List (List Int)} {Q : GHeap → Prop}

theorem fw_two (w : FW L0 Lb g b9 b10 ca cb so sf R F Q L) {sd sr : Sl} {xs ys : List Sym} (hx : ∀ H, Q H → IsSl rSym H sd xs) (hy : ∀ H, Q H → IsSl rSym H sr ys) {b : Nat} (hu : L.unused b) {k : GHeap → Prop}
    (hk : ∀ L', FW L0 Lb g b9 b10 ca cb so sf R F (fun H => Q H ∧ IsSl (rS rSym) H ⟨some ⟨b, 0, none⟩, 2, 2⟩ [xs, ys]) L' → k L') : inL (L.alloc b [.slice sd.a sd.n sd.c, .slice sr.a sr.n sr.c] 2) k := by
  have hb := w.live.not hu
  have e := off_alloc (L := L) (cs := [.slice sd.a sd.n sd.c, .slice sr.a sr.n sr.c]) (n := 2) hb
  have hu' := unused_off (M := MM b9 b10) hu
  have le := Le.alloc hu' [.slice sd.a sd.n sd.c, .slice sr.a sr.n sr.c] 2
  refine inLI (hk _ (w.grow (SameOn.alloc hb) (by rw [e]; exact le) (by
    rw [e]
    refine ⟨w.mono _ _ le.toLeM w.q, ?_⟩
    exact IsSl.of_cells (cs := [.slice sd.a sd.n sd.c, .slice sr.a sr.n sr.c]) (Cells.cons (R := rS rSym) (c := [.slice sd.a sd.n sd.c]) ⟨sd, rfl, (hx _ w.q).mono le.toLeM⟩ (Cells.cons (R := rS rSym) (c := [.slice sr.a sr.n sr.c]) ⟨sr, rfl, (hy _ w.q).mono le.toLeM⟩ .nil)) rfl (Nat.le_refl _) alloc_reads) fun H H' h q => ⟨w.mono _ _ h q.1, q.2.mono h⟩))

theorem fw_cat (w : FW L0 Lb g b9 b10 ca cb so sf R F Q L) {st : Sl} {xs ys : List Sym} (hx : ∀ H, Q H → IsSl (rS rSym) H st [xs, ys]) (hb : xs.length + ys.length ≤ 1048576) {k : Sl → GHeap → Prop}
    (hk : ∀ x L', FW L0 Lb g b9 b10 ca cb so sf R F (fun H => Q H ∧ IsSl rSym H x (xs ++ ys)) L' → k x L') :
    ACalls PP slices_Concat_api_Sym_api_Sym.id [.slice st.a st.n st.c] L fun v L' => ∃ x : Sl, v = .slice x.a x.n x.c ∧ k x L' := by
  refine ACalls.off w.live (Concat_spec (hx _ w.q) (by simp [totL]; omega) (by simp)) ?_
  rintro v L' hsame hlive ⟨x, rfl, hle, ho⟩
  rw [show [xs, ys].flatten = xs ++ ys by simp] at ho
  exact ⟨x, rfl, hk x L' (w.grow hsame hle ⟨w.mono _ _ hle.toLeM w.q, ho⟩ fun H H' h q => ⟨w.mono _ _ h q.1, q.2.mono h⟩)⟩

theorem fw_rdT (w : FW L0 Lb g b9 b10 ca cb so sf R F Q L) {st : Sl} {s : Sym} {ss : List Sym} {aT : Addr} (h : ∀ H, Q H → IsSl rSym H st (s :: ss)) (e : st.a = some aT) : L.reads (aT.add (Int.toNat 0 * 2)) 0 [.bool s.term, .int .i64 s.n] := by
  obtain ⟨a, cs, ha, hK, hr⟩ := (h _ w.q).at_ 0 s rfl
  rw [e] at ha; cases ha
  obtain rfl := hK
  exact off_le.reads hr

theorem fw_mem (w : FW L0 Lb g b9 b10 ca cb so sf R F Q L) {t : Addr} {v : Value} (m : Lb.mem t = some v) : L.mem t = some v := w.up.mem _ _ m

theorem fw_add (w : FW L0 Lb g b9 b10 ca cb so sf R F Q L) {X : GHeap → Prop} (h : X (L.off (MM b9 b10))) (hm : ∀ H H', LeM H H' → X H → X H') : FW L0 Lb g b9 b10 ca cb so sf R F (fun H => Q H ∧ X H) L :=
  ⟨w.ne, w.p9, w.p10, w.le, w.ro, w.fo, w.sep, ⟨w.q, h⟩, fun H H' hl q => ⟨w.mono _ _ hl q.1, hm _ _ hl q.2⟩⟩

theorem fw_apI2 {L' : GHeap} {x : Sl} {us : List Int} {u : Int} (p : Pnd b9 b10 rI L L' x us) (w : FW L0 Lb g b9 b10 ca cb so sf R F Q L) (hb : us.length ≤ 1048576) {k : Sl → GHeap → Prop}
    (hk : ∀ x' L'', FW L0 Lb g b9 b10 ca cb so sf R F (fun H => Q H ∧ IsSl rI H x' (us ++ [u])) L'' → k x' L'') : appendK 1 8 L' x 1 [.int .i64 u] k := fw_apI w p hb hk

theorem ptr_at {s : Sl} {a : Addr} {k : Addr → Prop} (e : s.a = some a) (h : k a) : ptrK s.a k := by rw [e]; exact h

/-- What the function answers. -/
def FiP (L0 Lb : GHeap) (g : Gram) (b9 b10 : Nat) (R : List Rule) (F : List (List Int)) (E : List (Rule × List Int)) (Q : GHeap → Prop) (v : Value) (L' : GHeap) : Prop :=
  ∃ (b : Bool) (so sf : Sl) (R' : List Rule) (F' : List (List Int)), v = .bool b ∧ FW L0 Lb g b9 b10 so sf so sf R' F' Q L' ∧ (b = true → R' = R ++ E.map Prod.fst ∧ F' = F ++ E.map Prod.snd ∧ R'.length ≤ 32) ∧ (b = false → 32 < R.length + E.length)

variable {n left : Int} {t6 t7 t8 : Addr} {sg : Sl}

theorem fill_spec (hv : Valid g) (hs : IsSl rRule Lb sg g.rules) (m6 : Lb.mem t6 = some (.int .i64 n)) (m7 : Lb.mem t7 = some (.func (.func parlref2_InlineOf_1.id) #[] (List.toArray [.pointer (some ⟨b9, 0, none⟩), .pointer (some ⟨b10, 0, none⟩), .pointer (some t6), .pointer (some t7), .pointer (some t8)])))
    (m8 : Lb.mem (t8.add 3) = some (.slice sg.a sg.n sg.c)) :
    ∀ (ss done : List Sym) (used : List Int) (Q : GHeap → Prop) (R : List Rule) (F : List (List Int)) (so sf sd st su : Sl) (L : GHeap), FW L0 Lb g b9 b10 so sf so sf R F Q L → (∀ H, Q H → IsSl rSym H sd done ∧ IsSl rSym H st ss ∧ IsSl rI H su used) →
      done.length + 4 * ss.length ≤ 64 → used.length + ss.length ≤ 64 → R.length = F.length → R.length ≤ 64 →
      ACalls PP parlref2_InlineOf_1.id ([.int .i64 left, .slice sd.a sd.n sd.c, .slice st.a st.n st.c, .slice su.a su.n su.c] ++ [.pointer (some ⟨b9, 0, none⟩), .pointer (some ⟨b10, 0, none⟩), .pointer (some t6), .pointer (some t7), .pointer (some t8)]) L
        (FiP L0 Lb g b9 b10 R F (fillL g n left ss done used) Q) := by
  have hmany := hv.many
  have hsn := hs.n
  intro ss
  induction ss with
  | nil =>
    intro done used Q R F so sf sd st su L w hq hd hu hRF hR
    have hRn := w.ro.sl.n
    have hstn := (hq _ w.q).2.1.n
    simp only [List.length_nil] at hd hu hstn
    apply parlref2_InlineOf_1.go
    refine ⟨so, fw_rd9 w, bcD (fun h => ⟨false, so, sf, R, F, rfl, w, fun h => (by cases h), fun _ => ?_⟩) fun h0 => bcE (fun _ => ?_) fun h => absurd (by rw [hstn]; rfl) h⟩
    · simp only [fillL, List.length_singleton]; omega
    have fin : ∀ (so' sf' : Sl) (Q' : GHeap → Prop) (L' : GHeap), FW L0 Lb g b9 b10 so' sf' so' sf' (R ++ [⟨left, done⟩]) (F ++ [used]) Q' L' → (∀ H, Q' H → Q H) →
        parlref2_InlineOf_1.c5 (FiP L0 Lb g b9 b10 R F (fillL g n left [] done used) Q) ⟨b9, 0, none⟩ L' := by
      intro so' sf' Q' L' w' hQ
      have hn' := w'.ro.sl.n
      apply parlref2_InlineOf_1.go5
      refine ⟨so', fw_rd9 w', ?_⟩
      refine ⟨_, so', sf', _, _, rfl, w'.weak hQ w.mono, fun h => ⟨rfl, rfl, ?_⟩, fun h => ?_⟩
      · have := of_decide_eq_true h; omega
      · have := of_decide_eq_false h
        simp only [fillL, List.length_singleton]
        rw [List.length_append, List.length_singleton] at hn'
        omega
    have hRb : R.length ≤ 1048576 := by omega
    have hFb : F.length ≤ 1048576 := by omega
    have hdb : done.length ≤ 1048576 := by omega
    have hub : used.length ≤ 1048576 := by omega
    repeat' first
      | with_reducible exact fin _ _ _ _ (by assumption) (fun H q => by first | exact q.1 | exact q.1.1)
      | with_reducible refine fw_put (by assumption) fun _ _ => ?_
      | with_reducible refine ⟨_, fw_rd9 (by assumption), ?_⟩
      | with_reducible refine ⟨_, fw_rd10 (by assumption), ?_⟩
      | with_reducible refine fw_clS (by assumption) (ss := done) (fun H q => by first | exact (hq H q).1 | exact (hq H q.1).1) hdb fun _ _ _ _ => ?_
      | with_reducible refine fw_clI (by assumption) (us := used) (fun H q => by first | exact (hq H q).2.2 | exact (hq H q.1).2.2) hub fun _ _ _ _ => ?_
      | with_reducible refine fw_rule (by assumption) (ss := done) (fun H q => by first | exact q.2 | exact q.1.2) hRb fun _ _ _ => ?_
      | with_reducible refine fw_from (by assumption) (us := used) (fun H q => by first | exact q.2 | exact q.1.2) hFb fun _ _ _ => ?_
      | with_reducible apply And.intro
  | cons s ss ih =>
    intro done used Q R F so sf sd st su L w hq hd hu hRF hR
    have hRn := w.ro.sl.n
    have hst := (hq _ w.q).2.1
    have hstn := hst.n
    simp only [List.length_cons] at hd hu hstn
    obtain ⟨aT, csT, eT, hKT, hrT⟩ := hst.at_ 0 s rfl
    have hdb : done.length ≤ 1048576 := by omega
    have hub : used.length ≤ 1048576 := by omega
    have hdrop : ∀ H, Q H → IsSl rSym H ⟨subA st.a st.c 1 2, st.n - 1, st.c - 1⟩ ss := fun H q => (hq H q).2.1.drop (l := 1) (by simp)
    apply parlref2_InlineOf_1.go
    refine ⟨so, fw_rd9 w, bcD (fun h => ⟨false, so, sf, R, F, rfl, w, fun h => (by cases h), fun _ => by omega⟩) fun h0 => bcE (fun h => absurd h (by rw [hstn]; omega)) fun _ => ?_⟩
    refine ptr_at eT ⟨⟨by omega, by rw [hstn]; omega⟩, _, _, fw_rdT w (fun H q => (hq H q).2.1) eT, _, fw_mem w m6, ?_⟩
    refine bcN (bcI (fun hisN => ?_) fun hisN => ?_)
    · have hyes : isN n s = true := by unfold isN; cases ht : s.term <;> simp [ht] at hisN ⊢ <;> omega
      have eE : fillL g n left (s :: ss) done used = (inOwn g n).flatMap fun i => fillL g n left ss (done ++ rgt g i) (used ++ [i]) := by simp only [fillL]; rw [if_pos hyes]
      refine ⟨sg, fw_mem w m8, ?_⟩
      have key : ∀ i, i ≤ g.rules.length → ∀ (so' sf' : Sl) (R' : List Rule) (F' : List (List Int)) (L' : GHeap), FW L0 Lb g b9 b10 so' sf' so' sf' R' F' Q L' →
          R' = R ++ ((whereI (fun r => r.left == n) 0 (g.rules.take i)).flatMap fun i => fillL g n left ss (done ++ rgt g i) (used ++ [i])).map Prod.fst →
          F' = F ++ ((whereI (fun r => r.left == n) 0 (g.rules.take i)).flatMap fun i => fillL g n left ss (done ++ rgt g i) (used ++ [i])).map Prod.snd → R'.length ≤ 32 →
          parlref2_InlineOf_1.c9 (FiP L0 Lb g b9 b10 R F (fillL g n left (s :: ss) done used) Q) left sd st su t6 t7 sg ((sg.n : Nat) : Int) ((i : Nat) : Int) L' := by
        refine down ?_ ?_
        · intro so' sf' R' F' L' w' eR eF hR'
          rw [List.take_length] at eR eF
          apply parlref2_InlineOf_1.go9
          refine bcD (fun h => absurd h (by omega)) fun _ => ⟨true, so', sf', R', F', rfl, w', fun _ => ?_, fun h => (by cases h)⟩
          rw [eE]
          exact ⟨eR, eF, hR'⟩
        · intro i hi ihi so' sf' R' F' L' w' eR eF hR'
          rw [whereI_succ hi, Nat.zero_add] at ihi
          have hir := List.getElem?_eq_getElem hi
          have hrm := List.getElem_mem hi
          have hr4 := (hv.ok _ hrm).2
          have hrg : rgt g ((i : Nat) : Int) = g.rules[i].right := rgt_at hir
          have hlen' : R'.length = F'.length := by rw [eR, eF]; simp [hRF]
          apply parlref2_InlineOf_1.go9
          refine bcD (fun _ => ?_) fun h => absurd (by omega) h
          obtain ⟨aR, csR, eaR, hKR, hrR⟩ := hs.at_ _ _ hir
          obtain ⟨sr, rfl, hsr⟩ := hKR
          refine ptr_at eaR ⟨⟨by omega, by omega⟩, _, sr, w'.up.reads hrR, n, fw_mem w' m6, bcE (fun heq => ?_) fun hne => ?_⟩
          · have hp : (g.rules[i].left == n) = true := by simpa using heq
            simp only [hp, if_true] at ihi
            have w1 := fw_add w' (X := fun H => IsSl rSym H sr g.rules[i].right) (hsr.mono w'.le.toLeM) fun H H' hl h => h.mono hl
            have call : ∀ (Q' : GHeap → Prop) (x u : Sl) (L1 : GHeap), FW L0 Lb g b9 b10 so' sf' so' sf' R' F' Q' L1 → (∀ H, Q' H → Q H ∧ IsSl rSym H x (done ++ g.rules[i].right) ∧ IsSl rI H u (used ++ [((i : Nat) : Int)])) →
                ACalls PP parlref2_InlineOf_1.id ([.int .i64 left, .slice x.a x.n x.c, .slice (subA st.a st.c 1 2) (st.n - 1) (st.c - 1), .slice u.a u.n u.c] ++ [.pointer (some ⟨b9, 0, none⟩), .pointer (some ⟨b10, 0, none⟩), .pointer (some t6), .pointer (some t7), .pointer (some t8)]) L1 fun v L => ∃ x87 : Bool, v = .bool x87 ∧ bc (!x87)
                  (parlref2_InlineOf_1.c12 (FiP L0 Lb g b9 b10 R F (fillL g n left (s :: ss) done used) Q) L) (parlref2_InlineOf_1.c13 (FiP L0 Lb g b9 b10 R F (fillL g n left (s :: ss) done used) Q) left sd st su t6 t7 sg ((sg.n : Nat) : Int) ((i : Nat) : Int) L) := by
              intro Q' x u L1 w2 hQ'
              refine (ih (done ++ g.rules[i].right) (used ++ [((i : Nat) : Int)]) Q' R' F' so' sf' x ⟨subA st.a st.c 1 2, st.n - 1, st.c - 1⟩ u L1 w2 (fun H q => ⟨(hQ' H q).2.1, hdrop H (hQ' H q).1, (hQ' H q).2.2⟩) (by simp; omega) (by simp; omega) hlen' (by omega)).mono ?_
              rintro v L'' ⟨b, so'', sf'', R'', F'', rfl, w'', h1, h2⟩
              have wQ := w''.weak (Q' := Q) (fun H q => (hQ' H q).1) w.mono
              have esub : ∀ (A B C : List Int), (((A ++ [((i : Nat) : Int)]) ++ B).flatMap fun i => fillL g n left ss (done ++ rgt g i) (used ++ [i])) = (A.flatMap fun i => fillL g n left ss (done ++ rgt g i) (used ++ [i])) ++ fillL g n left ss (done ++ g.rules[i].right) (used ++ [((i : Nat) : Int)]) ++ (B.flatMap fun i => fillL g n left ss (done ++ rgt g i) (used ++ [i])) := fun A B _ => by
                rw [List.flatMap_append, List.flatMap_append, List.flatMap_singleton, hrg]
              cases b with
              | true =>
                obtain ⟨e1, e2, e3⟩ := h1 rfl
                refine ⟨true, rfl, bcN (bcT rfl ?_)⟩
                apply parlref2_InlineOf_1.go13
                unfold parlref2_InlineOf_1.t13
                rw [add_one (by omega)]
                refine ihi so'' sf'' R'' F'' L'' wQ ?_ ?_ e3
                · rw [e1, eR]; simp [List.flatMap_append, hrg]
                · rw [e2, eF]; simp [List.flatMap_append, hrg]
              | false =>
                refine ⟨false, rfl, bcN (bcF rfl ?_)⟩
                apply parlref2_InlineOf_1.go12
                refine ⟨false, so'', sf'', R'', F'', rfl, wQ, fun h => (by cases h), fun _ => ?_⟩
                have h3 := h2 rfl
                have hsplit : ∃ B, inOwn g n = (whereI (fun r => r.left == n) 0 (g.rules.take i) ++ [((i : Nat) : Int)]) ++ B := by
                  have e : g.rules = g.rules.take (i + 1) ++ g.rules.drop (i + 1) := (List.take_append_drop _ _).symm
                  refine ⟨whereI (fun r => r.left == n) (0 + (g.rules.take (i + 1)).length) (g.rules.drop (i + 1)), ?_⟩
                  unfold inOwn
                  conv => lhs; rw [e]
                  rw [whereI_app, whereI_succ hi, Nat.zero_add]
                  simp only [hp, if_true]
                obtain ⟨B, hB⟩ := hsplit
                rw [eE, hB, esub _ B []]
                rw [eR] at h3
                simp only [List.length_append, List.length_map] at h3 ⊢
                omega
            refine ⟨⟨by omega, by rw [hstn]; omega⟩, ?_⟩
            repeat' first
              | with_reducible exact call _ _ _ _ (by assumption) (fun H q => by exact ⟨q.1.1.1.1, q.1.2, q.2⟩)
              | with_reducible refine ⟨_, _, fw_mem (by assumption) m7, ?_⟩
              | with_reducible refine fun _ hu => fw_two (by assumption) (xs := done) (ys := g.rules[i].right) (fun H q => by exact (hq H q.1).1) (fun H q => by exact q.2) hu fun _ _ => ?_
              | with_reducible refine fw_cat (by assumption) (xs := done) (ys := g.rules[i].right) (fun H q => by exact q.2) (by omega) fun _ _ _ => ?_
              | with_reducible refine fw_clI (by assumption) (us := used) (fun H q => by exact (hq H q.1.1.1).2.2) hub fun _ _ _ _ => ?_
              | with_reducible refine fw_apI2 (us := used) (u := ((i : Nat) : Int)) (by assumption) (by assumption) hub fun _ _ _ => ?_
              | with_reducible apply And.intro
          · have hp : (g.rules[i].left == n) = false := by simpa using hne
            simp only [hp, Bool.false_eq_true, if_false, List.append_nil] at ihi
            apply parlref2_InlineOf_1.go13
            unfold parlref2_InlineOf_1.t13
            rw [add_one (by omega)]
            exact ihi so' sf' R' F' L' w' eR eF hR'
      exact key 0 (Nat.zero_le _) so sf R F L w (by simp [whereI]) (by simp [whereI]) (by omega)
    · have hno : ¬ isN n s = true := by unfold isN; rw [Bool.not_eq_true]; cases ht : s.term <;> simp [ht] at hisN ⊢ <;> omega
      have eE : fillL g n left (s :: ss) done used = fillL g n left ss (done ++ [s]) used := by simp only [fillL]; rw [if_neg hno]
      have call : ∀ (Q' : GHeap → Prop) (x : Sl) (L' : GHeap), FW L0 Lb g b9 b10 so sf so sf R F Q' L' → (∀ H, Q' H → Q H ∧ IsSl rSym H x (done ++ [s])) →
          ACalls PP parlref2_InlineOf_1.id ([.int .i64 left, .slice x.a x.n x.c, .slice (subA st.a st.c 1 2) (st.n - 1) (st.c - 1), .slice su.a su.n su.c] ++ [.pointer (some ⟨b9, 0, none⟩), .pointer (some ⟨b10, 0, none⟩), .pointer (some t6), .pointer (some t7), .pointer (some t8)]) L' fun v L => ∃ x59 : Bool, v = .bool x59 ∧ FiP L0 Lb g b9 b10 R F (fillL g n left (s :: ss) done used) Q (.bool x59) L := by
        intro Q' x L' w' hQ'
        refine (ih (done ++ [s]) used Q' R F so sf x ⟨subA st.a st.c 1 2, st.n - 1, st.c - 1⟩ su L' w' (fun H q => ⟨(hQ' H q).2, hdrop H (hQ' H q).1, (hq H (hQ' H q).1).2.2⟩) (by simp; omega) (by omega) hRF hR).mono ?_
        rintro v L'' ⟨b, so', sf', R', F', rfl, w'', h1, h2⟩
        rw [eE]
        exact ⟨b, rfl, b, so', sf', R', F', rfl, w''.weak (fun H q => (hQ' H q).1) w.mono, h1, h2⟩
      refine ptr_at eT ⟨⟨by omega, by rw [hstn]; omega⟩, ⟨by omega, by rw [hstn]; omega⟩, ?_⟩
      repeat' first
        | with_reducible exact call _ _ _ (by assumption) (fun H q => by exact ⟨q.1, q.2⟩)
        | with_reducible refine ⟨_, _, fw_rdT (by assumption) (fun H q => by first | exact (hq H q).2.1 | exact (hq H q.1).2.1) eT, ?_⟩
        | with_reducible refine ⟨_, _, fw_mem (by assumption) m7, ?_⟩
        | with_reducible refine fw_clS (by assumption) (ss := done) (fun H q => (hq H q).1) hdb fun _ _ _ _ => ?_
        | with_reducible refine fw_apS w (ss := done) (s := s) (by assumption) hdb fun _ _ _ => ?_
        | with_reducible apply And.intro
end
end Go.Proofs.YtjmpheidcofhnaaDoor
