/- Contracts of the program's functions. -/
import Derived.Test.YtcnkbjipogngaaaCAll5
import Derived.Test.YtcnkbjipogngaaaCAll9
set_option linter.all false
namespace Go.Proofs.Ytcnkbjipogngaaa.NormT
open Go Go.Proofs.Ytcnkbjipogngaaa.GH

theorem pb_eq {g : Gram} {i k : Nat} {b b' : Bs} (h : PB g i k b) (h' : PB g i k b') : b = b' := by
  obtain ⟨l, h1, h2⟩ := h
  obtain ⟨l', h1', h2'⟩ := h'
  rw [h1] at h1'
  injection h1' with e
  subst e
  rw [h2] at h2'
  exact Option.some.inj h2'

/-- Places from a nonterminal to another. -/
inductive Wy (g : Gram) (m : Int) : List (Nat × Nat) → Int → Prop
  | nil : Wy g m [] m
  | snoc {ps : List (Nat × Nat)} {i k : Nat} {b : Bs} {n : Int} : Wy g m ps b.1 → PB g i k b → leads g b n → Wy g m (ps ++ [(i, k)]) n

/-- Places from a nonterminal to a tree's kids. -/
inductive WayF (g : Gram) (x : Tree) : Int → List (Nat × Nat) → Prop
  | last {i k : Nat} {b : Bs} : PB g i k b → fitsB g b x → WayF g x b.1 [(i, k)]
  | step {i k : Nat} {b : Bs} {n : Int} {w : List (Nat × Nat)} : PB g i k b → leads g b n → WayF g x n w → WayF g x b.1 ((i, k) :: w)

theorem Wy.way {g : Gram} {x : Tree} {m c : Int} {ps w : List (Nat × Nat)} (h : Wy g m ps c) : ∀ {w}, WayF g x c w → WayF g x m (ps ++ w) := by
  induction h with
  | nil => exact fun h => h
  | snoc _ hp hl ih =>
    intro w hw
    rw [List.append_assoc]
    exact ih (.step hp hl hw)

variable {g : Gram} {x : Tree} {m : Int}

def dl (F : Int → Option (List (Nat × Nat))) (c : Int) : Nat := ((F c).getD []).length
theorem dl_some {F : Int → Option (List (Nat × Nat))} {c : Int} {ps : List (Nat × Nat)} (h : F c = some ps) : dl F c = ps.length := by unfold dl; rw [h]; rfl

/-- What is known while chains are sought: C holds what is looked at. -/
structure BI (g : Gram) (x : Tree) (m : Int) (F : Int → Option (List (Nat × Nat))) (q : List Int) (C : Int → Prop) : Prop where
  st : F m = some []
  wy : ∀ c ps, F c = some ps → Wy g m ps c ∧ 0 ≤ c ∧ c < nN g
  inq : ∀ c ∈ q, ∃ ps, F c = some ps
  cl : ∀ c ps, F c = some ps → c ∉ q → ¬ C c → ∀ i k b, PB g i k b → b.1 = c → ¬ fitsB g b x ∧ ∀ n, leads g b n → ∃ qs, F n = some qs ∧ qs.length ≤ ps.length + 1

/-- The queue holds what is far in order. -/
structure QO (F : Int → Option (List (Nat × Nat))) (q : List Int) (D : Nat) : Prop where
  lo : ∀ c ∈ q, D ≤ dl F c
  hi : ∀ c ∈ q, dl F c ≤ D + 1
  inc : q.Pairwise fun a b => dl F a ≤ dl F b

/-- A nonterminal is looked at: the rules before this were no fit, and what they lead to is found. -/
structure PI (g : Gram) (x : Tree) (m : Int) (F : Int → Option (List (Nat × Nat))) (q : List Int) (c0 : Int) (p0 : List (Nat × Nat)) (pre : List Bs) : Prop where
  bi : BI g x m F q (· = c0)
  qo : QO F q p0.length
  cur : F c0 = some p0
  pre : ∀ y ∈ pre, y.1 = c0 → ¬ fitsB g y x ∧ ∀ n, leads g y n → ∃ qs, F n = some qs ∧ qs.length ≤ p0.length + 1
  all : ∀ c ps, F c = some ps → ps.length ≤ p0.length + 1

theorem BI.far {F : Int → Option (List (Nat × Nat))} {q : List Int} {c0 : Int} {D : Nat} (h : BI g x m F q (· = c0)) (ho : ∀ c ∈ q, D ≤ dl F c) (hc0 : D ≤ dl F c0) {c : Int} {n : Nat} (hc : Ch g x c n) : ∀ ps, F c = some ps → ¬ ps.length + n ≤ D := by
  induction hc with
  | @last i k b hp hf =>
    intro ps hps hle
    have hd := dl_some hps
    exact (h.cl b.1 ps hps (fun hq => by have := ho _ hq; omega) (fun e => by rw [e] at hd; omega) i k b hp rfl).1 hf
  | @step i k b n j hp hl _ ih =>
    intro ps hps hle
    have hd := dl_some hps
    obtain ⟨qs, h1, h2⟩ := (h.cl b.1 ps hps (fun hq => by have := ho _ hq; omega) (fun e => by rw [e] at hd; omega) i k b hp rfl).2 n hl
    exact ih qs h1 (by omega)

theorem BI.none {F : Int → Option (List (Nat × Nat))} (h : BI g x m F [] fun _ => False) {c : Int} {n : Nat} (hc : Ch g x c n) : ∀ ps, F c ≠ some ps := by
  induction hc with
  | @last i k b hp hf => exact fun ps hps => (h.cl b.1 ps hps (by simp) id i k b hp rfl).1 hf
  | @step i k b n j hp hl _ ih =>
    intro ps hps
    obtain ⟨qs, h1, _⟩ := (h.cl b.1 ps hps (by simp) id i k b hp rfl).2 n hl
    exact ih qs h1

/-- The first of the queue is taken. -/
theorem BI.pop {F : Int → Option (List (Nat × Nat))} {q : List Int} {c0 : Int} (h : BI g x m F (c0 :: q) fun _ => False) (hi : (c0 :: q).Pairwise fun a b => dl F a ≤ dl F b) (hd : ∀ c ps, F c = some ps → ∀ c' ∈ c0 :: q, ps.length ≤ dl F c' + 1) :
    ∃ p0, PI g x m F q c0 p0 [] := by
  obtain ⟨p0, hp0⟩ := h.inq c0 (List.mem_cons_self ..)
  have hl := dl_some hp0
  refine ⟨p0, ⟨h.st, h.wy, fun c hc => h.inq c (List.mem_cons_of_mem _ hc), fun c ps hc hn hne => h.cl c ps hc (fun hm => ?_) id⟩, ⟨fun c hc => ?_, fun c hc => ?_, (List.pairwise_cons.1 hi).2⟩, hp0, fun y hy => (by cases hy), fun c ps hc => ?_⟩
  · rcases List.mem_cons.1 hm with rfl | hm
    · exact hne rfl
    · exact hn hm
  · rw [← hl]; exact (List.pairwise_cons.1 hi).1 c hc
  · rw [← hl]
    obtain ⟨ps, hps⟩ := h.inq c (List.mem_cons_of_mem _ hc)
    rw [dl_some hps]
    exact hd c ps hps c0 (List.mem_cons_self ..)
  · rw [← hl]; exact hd c ps hc c0 (List.mem_cons_self ..)

theorem PI.more {F : Int → Option (List (Nat × Nat))} {q : List Int} {c0 : Int} {p0 : List (Nat × Nat)} {pre : List Bs} (h : PI g x m F q c0 p0 pre) {y : Bs}
    (hy : y.1 = c0 → ¬ fitsB g y x ∧ ∀ n, leads g y n → ∃ qs, F n = some qs ∧ qs.length ≤ p0.length + 1) : PI g x m F q c0 p0 (pre ++ [y]) := by
  refine ⟨h.bi, h.qo, h.cur, fun z hz => ?_, h.all⟩
  rcases List.mem_append.1 hz with hz | hz
  · exact h.pre z hz
  · rw [List.mem_singleton.1 hz]; exact hy

def putW (F : Int → Option (List (Nat × Nat))) (n : Int) (ps : List (Nat × Nat)) : Int → Option (List (Nat × Nat)) := fun c => if c = n then some ps else F c
theorem putW_self {F : Int → Option (List (Nat × Nat))} {n : Int} {ps : List (Nat × Nat)} : putW F n ps n = some ps := by unfold putW; rw [if_pos rfl]
theorem putW_ne {F : Int → Option (List (Nat × Nat))} {n c : Int} {ps : List (Nat × Nat)} (h : c ≠ n) : putW F n ps c = F c := by unfold putW; rw [if_neg h]

/-- Another nonterminal is found. -/
theorem PI.push {F : Int → Option (List (Nat × Nat))} {q : List Int} {c0 : Int} {p0 : List (Nat × Nat)} {pre : List Bs} (h : PI g x m F q c0 p0 pre) {i k : Nat} {y : Bs} {n : Int} (hn : F n = none) (hp : PB g i k y) (hy : y.1 = c0) (hl : leads g y n) (hr : 0 ≤ n ∧ n < nN g) :
    PI g x m (putW F n (p0 ++ [(i, k)])) (q ++ [n]) c0 p0 pre := by
  have old : ∀ {c : Int} {ps : List (Nat × Nat)}, F c = some ps → putW F n (p0 ++ [(i, k)]) c = some ps := by
    intro c ps hc
    rw [putW_ne (fun e => by rw [e, hn] at hc; cases hc)]; exact hc
  have hdl : ∀ {c : Int}, c ∈ q → dl (putW F n (p0 ++ [(i, k)])) c = dl F c := by
    intro c hc
    obtain ⟨ps, hps⟩ := h.bi.inq c hc
    rw [dl_some hps, dl_some (old hps)]
  have hdn : dl (putW F n (p0 ++ [(i, k)])) n = p0.length + 1 := by rw [dl_some putW_self]; simp
  refine ⟨⟨old h.bi.st, fun c ps hc => ?_, fun c hc => ?_, fun c ps hc hq hne i' k' b' hp' hb' => ?_⟩, ⟨fun c hc => ?_, fun c hc => ?_, ?_⟩, old h.cur, fun z hz hz0 => ?_, fun c ps hc => ?_⟩
  · by_cases e : c = n
    · subst e
      rw [putW_self] at hc
      injection hc with hc
      subst hc
      refine ⟨.snoc (b := y) ?_ hp hl, hr⟩
      rw [hy]
      exact (h.bi.wy c0 p0 h.cur).1
    · rw [putW_ne e] at hc
      exact h.bi.wy c ps hc
  · rcases List.mem_append.1 hc with hc | hc
    · obtain ⟨ps, hps⟩ := h.bi.inq c hc
      exact ⟨ps, old hps⟩
    · rw [List.mem_singleton.1 hc]; exact ⟨_, putW_self⟩
  · have hcn : c ≠ n := fun e => hq (by rw [e]; simp)
    rw [putW_ne hcn] at hc
    obtain ⟨h1, h2⟩ := h.bi.cl c ps hc (fun hm => hq (List.mem_append.2 (.inl hm))) hne i' k' b' hp' hb'
    refine ⟨h1, fun z hz => ?_⟩
    obtain ⟨qs, a, b⟩ := h2 z hz
    exact ⟨qs, old a, b⟩
  · rcases List.mem_append.1 hc with hc | hc
    · rw [hdl hc]; exact h.qo.lo c hc
    · rw [List.mem_singleton.1 hc, hdn]; omega
  · rcases List.mem_append.1 hc with hc | hc
    · rw [hdl hc]; exact h.qo.hi c hc
    · rw [List.mem_singleton.1 hc, hdn]; omega
  · rw [List.pairwise_append]
    refine ⟨h.qo.inc.imp_of_mem fun {a b} ha hb hab => by rw [hdl ha, hdl hb]; exact hab, by simp, fun a ha b hb => ?_⟩
    rw [List.mem_singleton.1 hb, hdl ha, hdn]
    exact h.qo.hi a ha
  · obtain ⟨h1, h2⟩ := h.pre z hz hz0
    refine ⟨h1, fun w hw => ?_⟩
    obtain ⟨qs, a, b⟩ := h2 w hw
    exact ⟨qs, old a, b⟩
  · by_cases e : c = n
    · subst e
      rw [putW_self] at hc
      injection hc with hc
      subst hc; simp
    · rw [putW_ne e] at hc
      exact h.all c ps hc

/-- All rules are looked at. -/
theorem PI.done {F : Int → Option (List (Nat × Nat))} {q : List Int} {c0 : Int} {p0 : List (Nat × Nat)} (h : PI g x m F q c0 p0 (rulesG g).flatten) :
    BI g x m F q (fun _ => False) ∧ (q.Pairwise fun a b => dl F a ≤ dl F b) ∧ ∀ c ps, F c = some ps → ∀ c' ∈ q, ps.length ≤ dl F c' + 1 := by
  refine ⟨⟨h.bi.st, h.bi.wy, h.bi.inq, fun c ps hc hq _ i k b hp hb => ?_⟩, h.qo.inc, fun c ps hc c' hc' => ?_⟩
  · by_cases e : c = c0
    · subst e
      have e2 := h.cur
      rw [hc] at e2
      injection e2 with e2
      subst e2
      exact h.pre b (pb_mem hp) hb
    · exact h.bi.cl c ps hc hq e i k b hp hb
  · have := h.all c ps hc
    have := h.qo.lo c' hc'
    omega

/-- The way that is found is the shortest. -/
theorem PI.fit {F : Int → Option (List (Nat × Nat))} {q : List Int} {c0 : Int} {p0 : List (Nat × Nat)} {pre : List Bs} (h : PI g x m F q c0 p0 pre) {i k : Nat} {y : Bs} (hp : PB g i k y) (hy : y.1 = c0) (hf : fitsB g y x) {n : Nat} (hn : Ch g x m n) :
    WayF g x m (p0 ++ [(i, k)]) ∧ (p0 ++ [(i, k)]).length ≤ n := by
  have hw := (h.bi.wy c0 p0 h.cur).1
  rw [← hy] at hw
  refine ⟨hw.way (w := []) (.last hp hf), ?_⟩
  have := h.bi.far (D := p0.length) h.qo.lo (by rw [dl_some h.cur]; exact Nat.le_refl _) hn [] h.bi.st
  simp at this ⊢
  omega

/-- By positions. -/
def ldAt (g : Gram) (y : Bs) (i : Nat) (n : Int) : Prop := y.2[i]? = some n ∧ (y.2.length = 1 ∨ ∃ o, y.2[1 - i]? = some o ∧ DerE (rulesG g).flatten o)
theorem leads_at {y : Bs} (hl : y.2.length ≤ 2) {n : Int} : leads g y n ↔ ∃ i, i < y.2.length ∧ ldAt g y i n := by
  obtain ⟨l, r⟩ := y
  unfold leads ldAt
  simp only at hl ⊢
  match r, hl with
  | [], _ => simp
  | [a], _ =>
    constructor
    · rintro (h | ⟨o, h, _⟩ | ⟨o, h, _⟩)
      · injection h with h
        exact ⟨0, by simp, by simp [h], .inl rfl⟩
      · injection h with _ h; cases h
      · injection h with _ h; cases h
    · rintro ⟨i, hi, h1, _⟩
      have : i = 0 := by simp at hi; omega
      subst this
      simp at h1
      exact .inl (by rw [h1])
  | [a, c], _ =>
    constructor
    · rintro (h | ⟨o, h, ho⟩ | ⟨o, h, ho⟩)
      · injection h with _ h; cases h
      · injection h with e1 h
        injection h with e2 _
        subst e1 e2
        exact ⟨0, by simp, by simp, .inr ⟨_, by simp, ho⟩⟩
      · injection h with e1 h
        injection h with e2 _
        subst e1 e2
        exact ⟨1, by simp, by simp, .inr ⟨_, by simp, ho⟩⟩
    · rintro ⟨i, hi, h1, h2⟩
      rcases h2 with h2 | ⟨o, h2, ho⟩
      · simp at h2
      have : i = 0 ∨ i = 1 := by simp at hi; omega
      rcases this with rfl | rfl
      · simp at h1 h2
        subst h1 h2
        exact .inr (.inl ⟨_, rfl, ho⟩)
      · simp at h1 h2
        subst h1 h2
        exact .inr (.inr ⟨_, rfl, ho⟩)
end Go.Proofs.Ytcnkbjipogngaaa.NormT

namespace Go.Proofs.Ytcnkbjipogngaaa.NormT
open Go Go.Proofs.Ytcnkbjipogngaaa.GH

variable {g : Gram} {b : Nat} {sg sr srl sn : Sl} {nl : List Bool} {R : Nat}

/-- Whether a nonterminal has the empty word, read from memory. -/
theorem null_at {L : GHeap} (hq : PQ L b g sg sr srl sn nl) {m : Int} (hm : 0 ≤ m ∧ m < nN g) (hN : 0 ≤ nN g) : ∃ w, nl[m.toNat]? = some w ∧ (w = true ↔ DerE (rulesG g).flatten m) := by
  obtain ⟨w, h1, h2⟩ := isN_get (nl := nl) hm.1 (by rw [hq.ok.len]; omega)
  exact ⟨w, h1, by rw [← h2, hq.ok.iff]⟩

theorem fits_spec (hv : Valid g) {L : GHeap} (hq : PQ L b g sg sr srl sn nl) {x : Tree} {sx : Sl} (hx : IsSl rTree L sx x.kids) {y : Bs} {sy : Sl} (hy : IsSl rI L sy y.2) (hlen : y.2.length ≤ 2) (hr : ∀ m ∈ y.2, 0 ≤ m ∧ m < nN g)
    (hk : x.kids.length = 2 ∨ (x.kids = [] ∧ 0 ≤ x.term ∧ x.term < g.terms)) :
    ACalls PP normal_parts_fits.id [.pointer (some ⟨b, 0, none⟩), .agg #[.int .i64 y.1, .slice sy.a sy.n sy.c], treeV x sx] L fun v L' => L' = L ∧ ∃ w : Bool, v = .bool w ∧ (w = true ↔ fitsB g y x) := by
  have hN := nN_le hv
  have ht := hv.terms
  apply normal_parts_fits.go
  rcases hk with hk | ⟨hk, ht0, ht1⟩
  · refine bcE (fun _ => bcE (fun h2 => ?_) fun h2 => ?_) fun h => absurd (by rw [hx.n]; omega) h
    · have h2 : y.2.length = 2 := by rw [hy.n] at h2; omega
      obtain ⟨a, c, he⟩ : ∃ a c, y.2 = [a, c] := by
        match hh : y.2, h2 with
        | [a, c], _ => exact ⟨a, c, rfl⟩
      obtain ⟨l, r, hke⟩ : ∃ l r, x.kids = [l, r] := by
        match hh : x.kids, hk with
        | [l, r], _ => exact ⟨l, r, rfl⟩
      rw [he] at hy
      rw [hke] at hx
      refine hy.get (i := 0) (x := a) rfl fun a1 cs1 hK1 hc1 => ?_
      obtain rfl := hK1
      have r1 := hc1.1
      rw [add_zero] at r1
      refine ⟨_, r1, hx.get (i := 0) (x := l) rfl fun a2 cs2 hK2 hc2 => ?_⟩
      obtain ⟨s2, rfl, _⟩ := TK.open hK2
      have r2 := hc2.1
      rw [add_zero] at r2
      refine ⟨_, r2, bcE (fun e1 => ?_) fun e1 => ⟨rfl, false, rfl, ?_⟩⟩
      · refine hy.get (i := 1) (x := c) rfl fun a3 cs3 hK3 hc3 => ?_
        obtain rfl := hK3
        have r3 := hc3.1
        rw [add_zero] at r3
        refine ⟨_, r3, hx.get (i := 1) (x := r) rfl fun a4 cs4 hK4 hc4 => ?_⟩
        obtain ⟨s4, rfl, _⟩ := TK.open hK4
        have r4 := hc4.1
        rw [add_zero] at r4
        refine ⟨_, r4, rfl, _, rfl, ?_⟩
        rw [beq_iff_eq]
        unfold fitsB
        rw [hke, he]
        constructor
        · exact fun e => .inl ⟨l, r, rfl, by rw [e1, e]⟩
        · rintro (⟨l', r', h1, h2⟩ | ⟨h1, _⟩)
          · injection h1 with h1 h3
            injection h3 with h3 _
            injection h2 with _ h4
            injection h4 with h4 _
            rw [h4, h3]
          · cases h1
      · refine ⟨fun h => (by cases h), ?_⟩
        unfold fitsB
        rw [hke, he]
        rintro (⟨l', r', h1, h2⟩ | ⟨h1, _⟩)
        · injection h1 with h1 h3
          injection h2 with h2 _
          exact absurd (by rw [h2, h1]) e1
        · cases h1
    · refine ⟨rfl, false, rfl, ⟨fun h => (by cases h), ?_⟩⟩
      unfold fitsB
      rintro (⟨l', r', h1, h3⟩ | ⟨h1, _⟩)
      · exact absurd (by rw [hy.n, h3]; rfl) h2
      · rw [h1] at hk; cases hk
  · have hx0 : sx.n = 0 := by rw [hx.n, hk]; rfl
    refine bcE (fun h => absurd h (by rw [hx0]; decide)) fun _ => ?_
    have hw : w64 (nT g + x.term) = nT g + x.term := w64_in (by omega) (by omega)
    have key : ∀ j, j ≤ y.2.length → (∀ i, i < j → ¬ ldAt g y i (nT g + x.term)) → normal_parts_fits.c4 (fun v L' => L' = L ∧ ∃ w : Bool, v = .bool w ∧ (w = true ↔ fitsB g y x)) (some ⟨b, 0, none⟩) sy ((sy.n : Nat) : Int) ((j : Nat) : Int) y.1 sy x.rule x.term sx L := by
      refine down ?_ ?_
      · intro hno
        apply normal_parts_fits.go4
        refine bcD (fun h => absurd h (by rw [hy.n]; omega)) fun _ => ⟨rfl, false, rfl, ⟨fun h => (by cases h), ?_⟩⟩
        unfold fitsB
        rintro (⟨l, r, h1, _⟩ | ⟨_, h1⟩)
        · rw [hk] at h1; cases h1
        · obtain ⟨i, hi, h1⟩ := (leads_at hlen).1 h1
          exact absurd h1 (hno i hi)
      · intro j hj ih hno
        have hyes : ldAt g y j (nT g + x.term) → fitsB g y x := fun h => .inr ⟨hk, (leads_at hlen).2 ⟨j, hj, h⟩⟩
        have next : ¬ ldAt g y j (nT g + x.term) → normal_parts_fits.c8 (fun v L' => L' = L ∧ ∃ w : Bool, v = .bool w ∧ (w = true ↔ fitsB g y x)) (some ⟨b, 0, none⟩) sy ((sy.n : Nat) : Int) ((j : Nat) : Int) y.1 sy x.rule x.term sx L := by
          intro h
          apply normal_parts_fits.go8
          unfold normal_parts_fits.t8
          rw [add_one (by omega)]
          refine ih fun i hi => ?_
          by_cases e : i = j
          · rw [e]; exact h
          · exact hno i (by omega)
        apply normal_parts_fits.go4
        refine bcD (fun _ => ?_) fun h => absurd (by rw [hy.n]; omega) h
        have hyj := List.getElem?_eq_getElem hj
        refine hy.get hyj fun a1 cs1 hK1 hc1 => ?_
        obtain rfl := hK1
        have r1 := hc1.1
        rw [add_zero] at r1
        refine ⟨_, r1, _, hq.mem 5 _ rfl, ?_⟩
        rw [hw]
        refine bcE (fun e => ?_) fun e => next fun h => ?_
        · rw [e] at hyj
          refine bcE (fun h1 => ?_) fun h1 => ?_
          · apply normal_parts_fits.go7
            exact ⟨rfl, true, rfl, fun _ => hyes ⟨hyj, .inl (by rw [hy.n] at h1; omega)⟩, fun _ => rfl⟩
          · have h2 : y.2.length = 2 := by rw [hy.n] at h1; omega
            have ho : 1 - j < y.2.length := by omega
            have hw1 : w64 (1 - (j : Int)) = ((1 - j : Nat) : Int) := by rw [w64_in (by omega) (by omega)]; omega
            have hyo := List.getElem?_eq_getElem ho
            have hor := hr _ (List.getElem_mem ho)
            obtain ⟨w, hnw, hnd⟩ := null_at hq hor (by omega)
            refine ⟨sn, hq.mem 8 _ rfl, ?_⟩
            rw [hw1]
            refine hy.get hyo fun a2 cs2 hK2 hc2 => ?_
            obtain rfl := hK2
            have r2 := hc2.1
            rw [add_zero] at r2
            refine ⟨_, r2, hq.nulls.getI hor.1 hnw fun a3 cs3 hK3 hc3 => ?_⟩
            obtain rfl := hK3
            have r3 := hc3.1
            rw [add_zero] at r3
            refine ⟨_, r3, bcI (fun hw => ?_) fun hw => next ?_⟩
            · apply normal_parts_fits.go7
              exact ⟨rfl, true, rfl, fun _ => hyes ⟨hyj, .inr ⟨_, hyo, hnd.1 hw⟩⟩, fun _ => rfl⟩
            · rintro ⟨_, h | ⟨o, h, hd⟩⟩
              · omega
              · rw [hyo] at h
                injection h with h
                rw [← h] at hd
                rw [hnd.2 hd] at hw; cases hw
        · have := h.1
          rw [hyj] at this
          exact e (Option.some.inj this)
    exact key 0 (Nat.zero_le _) fun i hi => by omega

def EB (g : Gram) (R : Nat) : Nat := (R - 1) * Sz R g.nons.toNat

theorem around_spec (hv : Valid g) (hR : ∀ r ∈ g.rules, r.right.length ≤ R) (h2 : 2 ≤ R) (h4 : R ≤ 4) {L : GHeap} (hq : PQ L b g sg sr srl sn nl) {y : Bs} {sy : Sl} (hy : IsSl rI L sy y.2) (hlen : y.2.length ≤ 2) (hr : ∀ m ∈ y.2, 0 ≤ m ∧ m < nN g) {n : Int} (hl : leads g y n)
    {sl : Sl} {l : List Tree} (hsl : IsSl rTree L sl l) (hll : l.length ≤ 8) :
    ACalls PP normal_parts_around.id [.pointer (some ⟨b, 0, none⟩), .agg #[.int .i64 y.1, .slice sy.a sy.n sy.c], .int .i64 n, .slice sl.a sl.n sl.c] L fun v L' => Le L L' ∧ ∃ (so : Sl) (l' : List Tree), v = .slice so.a so.n so.c ∧ IsSl rTree L' so l' ∧ ArOk g (EB g R) y n l l' := by
  have hN := nN_le hv
  apply normal_parts_around.go
  refine bcD (fun h => ⟨.refl L, sl, l, rfl, hsl, ?_⟩) fun h => ?_
  · rcases hl with hl | ⟨o, hl, _⟩ | ⟨o, hl, _⟩
    · exact .inl ⟨hl, rfl⟩
    · rw [hy.n, hl] at h; simp at h
    · rw [hy.n, hl] at h; simp at h
  obtain ⟨a, c, he⟩ : ∃ a c, y.2 = [a, c] := by
    have h2 : y.2.length = 2 := by rw [hy.n] at h; omega
    match hh : y.2, h2 with
    | [a, c], _ => exact ⟨a, c, rfl⟩
  have hra := hr a (by rw [he]; simp)
  have hrc := hr c (by rw [he]; simp)
  have hy0 := hy
  rw [he] at hy
  obtain ⟨w, hnw, hnd⟩ := null_at hq hrc (by omega)
  have c5 : ¬ (a = n ∧ w = true) → normal_parts_around.c5 (fun v L' => Le L L' ∧ ∃ (so : Sl) (l' : List Tree), v = .slice so.a so.n so.c ∧ IsSl rTree L' so l' ∧ ArOk g (EB g R) y n l l') (some ⟨b, 0, none⟩) sl y.1 sy L := by
    intro hno
    have hda : c = n ∧ DerE (rulesG g).flatten a := by
      rcases hl with hl | ⟨o, hl, hd⟩ | ⟨o, hl, hd⟩
      · rw [he] at hl; injection hl with _ hl; cases hl
      · rw [he] at hl
        injection hl with e1 hl
        injection hl with e2 _
        subst e1 e2
        exact absurd ⟨rfl, hnd.2 hd⟩ hno
      · rw [he] at hl
        injection hl with e1 hl
        injection hl with e2 _
        subst e1 e2
        exact ⟨rfl, hd⟩
    apply normal_parts_around.go5
    refine hy.get (i := 0) (x := a) rfl fun a1 cs1 hK1 hc1 => ?_
    obtain rfl := hK1
    have r1 := hc1.1
    rw [add_zero] at r1
    refine ⟨_, r1, (empty_spec hv hR h2 h4 hq hda.2 hra).mono ?_⟩
    rintro v L1 ⟨hle1, so, ts, rfl, ho, hd, hb, htl⟩
    refine ⟨so, rfl, ?_⟩
    obtain ⟨cc, hcc, hrc'⟩ := (hsl.mono hle1.toLeM).cells
    refine ⟨cc, ⟨hrc', hcc.one⟩, ?_⟩
    refine Own.append (R := rTree) (bytes := 40) (m := sl.n) (ys := l) ho hle1 hcc hsl.n.symm (.inl (by rw [hsl.n]; omega)) fun s' L' g1 g2 g3 _ _ => ?_
    exact ⟨g1, s', ts ++ l, rfl, g3.sl, .inr (.inr ⟨a, ts, by rw [he, hda.1], hd, hb, rfl⟩)⟩
  refine hy.get (i := 0) (x := a) rfl fun a1 cs1 hK1 hc1 => ?_
  obtain rfl := hK1
  have r1 := hc1.1
  rw [add_zero] at r1
  refine ⟨_, r1, bcE (fun e => ?_) fun e => c5 fun h => e h.1⟩
  subst e
  refine ⟨sn, hq.mem 8 _ rfl, hy.get (i := 1) (x := c) rfl fun a2 cs2 hK2 hc2 => ?_⟩
  obtain rfl := hK2
  have r2 := hc2.1
  rw [add_zero] at r2
  refine ⟨_, r2, hq.nulls.getI hrc.1 hnw fun a3 cs3 hK3 hc3 => ?_⟩
  obtain rfl := hK3
  have r3 := hc3.1
  rw [add_zero] at r3
  refine ⟨_, r3, bcI (fun hw => ?_) fun hw => c5 fun h => by rw [h.2] at hw; cases hw⟩
  have fin : ∀ (L1 : GHeap) (s1 : Sl), Le L L1 → Own L rTree L1 s1 l → ACalls PP normal_parts_empty.id [.pointer (some ⟨b, 0, none⟩), .int .i64 c] L1 fun v LL => ∃ x39 : Sl, v = .slice x39.a x39.n x39.c ∧
      ∃ c40 : List Value, (readsSl LL x39.a (x39.n * 3) c40 ∧ c40.all Value.oneCell' = true) ∧ appendK 3 40 LL s1 x39.n c40 fun x40 L' => Le L L' ∧ ∃ (so : Sl) (l' : List Tree), Value.slice x40.a x40.n x40.c = .slice so.a so.n so.c ∧ IsSl rTree L' so l' ∧ ArOk g (EB g R) y a l l' := by
    intro L1 s1 hle1 ho1
    refine (empty_spec hv hR h2 h4 (hq.up hle1.toLeM) (hnd.1 hw) hrc).mono ?_
    rintro v L2 ⟨hle2, so, ts, rfl, ho, hd, hb, htl⟩
    refine ⟨so, rfl, ?_⟩
    obtain ⟨cc, hcc, hrc'⟩ := ho.sl.cells
    refine ⟨cc, ⟨hrc', hcc.one⟩, ?_⟩
    refine Own.append (R := rTree) (bytes := 40) (m := so.n) (ys := ts) (ho1.mono hle2) (hle1.trans hle2) hcc ho.sl.n.symm (.inl (by rw [ho.sl.n]; omega)) fun s' L' g1 g2 g3 _ _ => ?_
    exact ⟨g1, s', l ++ ts, rfl, g3.sl, .inr (.inl ⟨c, ts, he, hd, hb, rfl⟩)⟩
  refine hy.get (i := 1) (x := c) rfl fun a4 cs4 hK4 hc4 => ?_
  obtain rfl := hK4
  have r4 := hc4.1
  rw [add_zero] at r4
  refine ⟨(CloneT_spec hsl (by omega)).mono ?_, _, r4, (CloneT_spec hsl (by omega)).mono ?_⟩
  · rintro v L1 ⟨s1, rfl, hle1, ho1⟩
    exact ⟨s1, rfl, _, hle1.mem _ _ r4, fin L1 s1 hle1 ho1⟩
  · rintro v L1 ⟨s1, rfl, hle1, ho1⟩
    exact ⟨s1, rfl, fin L1 s1 hle1 ho1⟩
end Go.Proofs.Ytcnkbjipogngaaa.NormT

