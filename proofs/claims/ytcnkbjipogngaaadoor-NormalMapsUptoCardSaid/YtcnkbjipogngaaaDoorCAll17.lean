/- Contracts of the program's functions. -/
import Derived.Test.YtcnkbjipogngaaaDoorCAll8
import Derived.Test.YtcnkbjipogngaaaDoorCAll12
set_option linter.all false
namespace Go.Proofs.YtcnkbjipogngaaaDoor.NormT
open Go Go.Proofs.YtcnkbjipogngaaaDoor.GH

theorem pb_eq {g : Gram} {i k : Nat} {b b' : Bs} (h : PB g i k b) (h' : PB g i k b') : b = b' := by
  obtain ⟨l, h1, h2⟩ := h
  obtain ⟨l', h1', h2'⟩ := h'
  rw [h1] at h1'
  injection h1' with e
  subst e
  rw [h2] at h2'
  exact Option.some.inj h2'

inductive Wy (g : Gram) (m : Int) : List (Nat × Nat) → Int → Prop
  | nil : Wy g m [] m
  | snoc {ps : List (Nat × Nat)} {i k : Nat} {b : Bs} {n : Int} : Wy g m ps b.1 → PB g i k b → leads g b n → Wy g m (ps ++ [(i, k)]) n

inductive WayF (g : Gram) (x : Tree) : Int → List (Nat × Nat) → Prop
  | last {i k : Nat} {b : Bs} : PB g i k b → fitsB g b x → WayF g x b.1 [(i, k)]
  | step {i k : Nat} {b : Bs} {n : Int} {w : List (Nat × Nat)} : PB g i k b → leads g b n → WayF g x n w → WayF g x b.1 ((i, k) :: w)

theorem Wy.way {g : Gram} {x : Tree} {m c : Int} {ps w : List (Nat × Nat)} (h : Wy g m ps c) : ∀ {w}, WayF g x c w → WayF g x m (ps ++ w) := by
  induction h with
  | nil => exact fun h => h
  | snoc _ hp hl ih =>
    intro w hw
    rw [List.append_assoc]
    exact ih (.step hp hl hw)

variable {g : Gram} {x : Tree} {m : Int}

def dl (F : Int → Option (List (Nat × Nat))) (c : Int) : Nat := ((F c).getD []).length
theorem dl_some {F : Int → Option (List (Nat × Nat))} {c : Int} {ps : List (Nat × Nat)} (h : F c = some ps) : dl F c = ps.length := by unfold dl; rw [h]; rfl

structure BI (g : Gram) (x : Tree) (m : Int) (F : Int → Option (List (Nat × Nat))) (q : List Int) (C : Int → Prop) : Prop where
  st : F m = some []
  wy : ∀ c ps, F c = some ps → Wy g m ps c ∧ 0 ≤ c ∧ c < nN g
  inq : ∀ c ∈ q, ∃ ps, F c = some ps
  cl : ∀ c ps, F c = some ps → c ∉ q → ¬ C c → ∀ i k b, PB g i k b → b.1 = c → ¬ fitsB g b x ∧ ∀ n, leads g b n → ∃ qs, F n = some qs ∧ qs.length ≤ ps.length + 1

structure QO (F : Int → Option (List (Nat × Nat))) (q : List Int) (D : Nat) : Prop where
  lo : ∀ c ∈ q, D ≤ dl F c
  hi : ∀ c ∈ q, dl F c ≤ D + 1
  inc : q.Pairwise fun a b => dl F a ≤ dl F b

structure PI (g : Gram) (x : Tree) (m : Int) (F : Int → Option (List (Nat × Nat))) (q : List Int) (c0 : Int) (p0 : List (Nat × Nat)) (pre : List Bs) : Prop where
  bi : BI g x m F q (· = c0)
  qo : QO F q p0.length
  cur : F c0 = some p0
  pre : ∀ y ∈ pre, y.1 = c0 → ¬ fitsB g y x ∧ ∀ n, leads g y n → ∃ qs, F n = some qs ∧ qs.length ≤ p0.length + 1
  all : ∀ c ps, F c = some ps → ps.length ≤ p0.length + 1

theorem BI.far {F : Int → Option (List (Nat × Nat))} {q : List Int} {c0 : Int} {D : Nat} (h : BI g x m F q (· = c0)) (ho : ∀ c ∈ q, D ≤ dl F c) (hc0 : D ≤ dl F c0) {c : Int} {n : Nat} (hc : Ch g x c n) : ∀ ps, F c = some ps → ¬ ps.length + n ≤ D := by
  induction hc with
  | @last i k b hp hf =>
    intro ps hps hle
    have hd := dl_some hps
    exact (h.cl b.1 ps hps (fun hq => by have := ho _ hq; omega) (fun e => by rw [e] at hd; omega) i k b hp rfl).1 hf
  | @step i k b n j hp hl _ ih =>
    intro ps hps hle
    have hd := dl_some hps
    obtain ⟨qs, h1, h2⟩ := (h.cl b.1 ps hps (fun hq => by have := ho _ hq; omega) (fun e => by rw [e] at hd; omega) i k b hp rfl).2 n hl
    exact ih qs h1 (by omega)

theorem BI.none {F : Int → Option (List (Nat × Nat))} (h : BI g x m F [] fun _ => False) {c : Int} {n : Nat} (hc : Ch g x c n) : ∀ ps, F c ≠ some ps := by
  induction hc with
  | @last i k b hp hf => exact fun ps hps => (h.cl b.1 ps hps (by simp) id i k b hp rfl).1 hf
  | @step i k b n j hp hl _ ih =>
    intro ps hps
    obtain ⟨qs, h1, _⟩ := (h.cl b.1 ps hps (by simp) id i k b hp rfl).2 n hl
    exact ih qs h1

theorem BI.pop {F : Int → Option (List (Nat × Nat))} {q : List Int} {c0 : Int} (h : BI g x m F (c0 :: q) fun _ => False) (hi : (c0 :: q).Pairwise fun a b => dl F a ≤ dl F b) (hd : ∀ c ps, F c = some ps → ∀ c' ∈ c0 :: q, ps.length ≤ dl F c' + 1) :
    ∃ p0, PI g x m F q c0 p0 [] := by
  obtain ⟨p0, hp0⟩ := h.inq c0 (List.mem_cons_self ..)
  have hl := dl_some hp0
  refine ⟨p0, ⟨h.st, h.wy, fun c hc => h.inq c (List.mem_cons_of_mem _ hc), fun c ps hc hn hne => h.cl c ps hc (fun hm => ?_) id⟩, ⟨fun c hc => ?_, fun c hc => ?_, (List.pairwise_cons.1 hi).2⟩, hp0, fun y hy => (by cases hy), fun c ps hc => ?_⟩
  · rcases List.mem_cons.1 hm with rfl | hm
    · exact hne rfl
    · exact hn hm
  · rw [← hl]; exact (List.pairwise_cons.1 hi).1 c hc
  · rw [← hl]
    obtain ⟨ps, hps⟩ := h.inq c (List.mem_cons_of_mem _ hc)
    rw [dl_some hps]
    exact hd c ps hps c0 (List.mem_cons_self ..)
  · rw [← hl]; exact hd c ps hc c0 (List.mem_cons_self ..)

theorem PI.more {F : Int → Option (List (Nat × Nat))} {q : List Int} {c0 : Int} {p0 : List (Nat × Nat)} {pre : List Bs} (h : PI g x m F q c0 p0 pre) {y : Bs}
    (hy : y.1 = c0 → ¬ fitsB g y x ∧ ∀ n, leads g y n → ∃ qs, F n = some qs ∧ qs.length ≤ p0.length + 1) : PI g x m F q c0 p0 (pre ++ [y]) := by
  refine ⟨h.bi, h.qo, h.cur, fun z hz => ?_, h.all⟩
  rcases List.mem_append.1 hz with hz | hz
  · exact h.pre z hz
  · rw [List.mem_singleton.1 hz]; exact hy

def putW (F : Int → Option (List (Nat × Nat))) (n : Int) (ps : List (Nat × Nat)) : Int → Option (List (Nat × Nat)) := fun c => if c = n then some ps else F c
theorem putW_self {F : Int → Option (List (Nat × Nat))} {n : Int} {ps : List (Nat × Nat)} : putW F n ps n = some ps := by unfold putW; rw [if_pos rfl]
theorem putW_ne {F : Int → Option (List (Nat × Nat))} {n c : Int} {ps : List (Nat × Nat)} (h : c ≠ n) : putW F n ps c = F c := by unfold putW; rw [if_neg h]

theorem PI.push {F : Int → Option (List (Nat × Nat))} {q : List Int} {c0 : Int} {p0 : List (Nat × Nat)} {pre : List Bs} (h : PI g x m F q c0 p0 pre) {i k : Nat} {y : Bs} {n : Int} (hn : F n = none) (hp : PB g i k y) (hy : y.1 = c0) (hl : leads g y n) (hr : 0 ≤ n ∧ n < nN g) :
    PI g x m (putW F n (p0 ++ [(i, k)])) (q ++ [n]) c0 p0 pre := by
  have old : ∀ {c : Int} {ps : List (Nat × Nat)}, F c = some ps → putW F n (p0 ++ [(i, k)]) c = some ps := by
    intro c ps hc
    rw [putW_ne (fun e => by rw [e, hn] at hc; cases hc)]; exact hc
  have hdl : ∀ {c : Int}, c ∈ q → dl (putW F n (p0 ++ [(i, k)])) c = dl F c := by
    intro c hc
    obtain ⟨ps, hps⟩ := h.bi.inq c hc
    rw [dl_some hps, dl_some (old hps)]
  have hdn : dl (putW F n (p0 ++ [(i, k)])) n = p0.length + 1 := by rw [dl_some putW_self]; simp
  refine ⟨⟨old h.bi.st, fun c ps hc => ?_, fun c hc => ?_, fun c ps hc hq hne i' k' b' hp' hb' => ?_⟩, ⟨fun c hc => ?_, fun c hc => ?_, ?_⟩, old h.cur, fun z hz hz0 => ?_, fun c ps hc => ?_⟩
  · by_cases e : c = n
    · subst e
      rw [putW_self] at hc
      injection hc with hc
      subst hc
      refine ⟨.snoc (b := y) ?_ hp hl, hr⟩
      rw [hy]
      exact (h.bi.wy c0 p0 h.cur).1
    · rw [putW_ne e] at hc
      exact h.bi.wy c ps hc
  · rcases List.mem_append.1 hc with hc | hc
    · obtain ⟨ps, hps⟩ := h.bi.inq c hc
      exact ⟨ps, old hps⟩
    · rw [List.mem_singleton.1 hc]; exact ⟨_, putW_self⟩
  · have hcn : c ≠ n := fun e => hq (by rw [e]; simp)
    rw [putW_ne hcn] at hc
    obtain ⟨h1, h2⟩ := h.bi.cl c ps hc (fun hm => hq (List.mem_append.2 (.inl hm))) hne i' k' b' hp' hb'
    refine ⟨h1, fun z hz => ?_⟩
    obtain ⟨qs, a, b⟩ := h2 z hz
    exact ⟨qs, old a, b⟩
  · rcases List.mem_append.1 hc with hc | hc
    · rw [hdl hc]; exact h.qo.lo c hc
    · rw [List.mem_singleton.1 hc, hdn]; omega
  · rcases List.mem_append.1 hc with hc | hc
    · rw [hdl hc]; exact h.qo.hi c hc
    · rw [List.mem_singleton.1 hc, hdn]; omega
  · rw [List.pairwise_append]
    refine ⟨h.qo.inc.imp_of_mem fun {a b} ha hb hab => by rw [hdl ha, hdl hb]; exact hab, by simp, fun a ha b hb => ?_⟩
    rw [List.mem_singleton.1 hb, hdl ha, hdn]
    exact h.qo.hi a ha
  · obtain ⟨h1, h2⟩ := h.pre z hz hz0
    refine ⟨h1, fun w hw => ?_⟩
    obtain ⟨qs, a, b⟩ := h2 w hw
    exact ⟨qs, old a, b⟩
  · by_cases e : c = n
    · subst e
      rw [putW_self] at hc
      injection hc with hc
      subst hc; simp
    · rw [putW_ne e] at hc
      exact h.all c ps hc

theorem PI.done {F : Int → Option (List (Nat × Nat))} {q : List Int} {c0 : Int} {p0 : List (Nat × Nat)} (h : PI g x m F q c0 p0 (rulesG g).flatten) :
    BI g x m F q (fun _ => False) ∧ (q.Pairwise fun a b => dl F a ≤ dl F b) ∧ ∀ c ps, F c = some ps → ∀ c' ∈ q, ps.length ≤ dl F c' + 1 := by
  refine ⟨⟨h.bi.st, h.bi.wy, h.bi.inq, fun c ps hc hq _ i k b hp hb => ?_⟩, h.qo.inc, fun c ps hc c' hc' => ?_⟩
  · by_cases e : c = c0
    · subst e
      have e2 := h.cur
      rw [hc] at e2
      injection e2 with e2
      subst e2
      exact h.pre b (pb_mem hp) hb
    · exact h.bi.cl c ps hc hq e i k b hp hb
  · have := h.all c ps hc
    have := h.qo.lo c' hc'
    omega

theorem PI.fit {F : Int → Option (List (Nat × Nat))} {q : List Int} {c0 : Int} {p0 : List (Nat × Nat)} {pre : List Bs} (h : PI g x m F q c0 p0 pre) {i k : Nat} {y : Bs} (hp : PB g i k y) (hy : y.1 = c0) (hf : fitsB g y x) {n : Nat} (hn : Ch g x m n) :
    WayF g x m (p0 ++ [(i, k)]) ∧ (p0 ++ [(i, k)]).length ≤ n := by
  have hw := (h.bi.wy c0 p0 h.cur).1
  rw [← hy] at hw
  refine ⟨hw.way (w := []) (.last hp hf), ?_⟩
  have := h.bi.far (D := p0.length) h.qo.lo (by rw [dl_some h.cur]; exact Nat.le_refl _) hn [] h.bi.st
  simp at this ⊢
  omega

theorem PI.fitA {F : Int → Option (List (Nat × Nat))} {q : List Int} {c0 : Int} {p0 : List (Nat × Nat)} {pre : List Bs} (h : PI g x m F q c0 p0 pre) {i k : Nat} {y : Bs} (hp : PB g i k y) (hy : y.1 = c0) (hf : fitsB g y x) :
    WayF g x m (p0 ++ [(i, k)]) ∧ ∀ n, Ch g x m n → (p0 ++ [(i, k)]).length ≤ n := by
  have hw := (h.bi.wy c0 p0 h.cur).1
  rw [← hy] at hw
  exact ⟨hw.way (w := []) (.last hp hf), fun n hn => (h.fit hp hy hf hn).2⟩

def ldAt (g : Gram) (y : Bs) (i : Nat) (n : Int) : Prop := y.2[i]? = some n ∧ (y.2.length = 1 ∨ ∃ o, y.2[1 - i]? = some o ∧ DerE (rulesG g).flatten o)
theorem leads_at {y : Bs} (hl : y.2.length ≤ 2) {n : Int} : leads g y n ↔ ∃ i, i < y.2.length ∧ ldAt g y i n := by
  obtain ⟨l, r⟩ := y
  unfold leads ldAt
  simp only at hl ⊢
  match r, hl with
  | [], _ => simp
  | [a], _ =>
    constructor
    · rintro (h | ⟨o, h, _⟩ | ⟨o, h, _⟩)
      · injection h with h
        exact ⟨0, by simp, by simp [h], .inl rfl⟩
      · injection h with _ h; cases h
      · injection h with _ h; cases h
    · rintro ⟨i, hi, h1, _⟩
      have : i = 0 := by simp at hi; omega
      subst this
      simp at h1
      exact .inl (by rw [h1])
  | [a, c], _ =>
    constructor
    · rintro (h | ⟨o, h, ho⟩ | ⟨o, h, ho⟩)
      · injection h with _ h; cases h
      · injection h with e1 h
        injection h with e2 _
        subst e1 e2
        exact ⟨0, by simp, by simp, .inr ⟨_, by simp, ho⟩⟩
      · injection h with e1 h
        injection h with e2 _
        subst e1 e2
        exact ⟨1, by simp, by simp, .inr ⟨_, by simp, ho⟩⟩
    · rintro ⟨i, hi, h1, h2⟩
      rcases h2 with h2 | ⟨o, h2, ho⟩
      · simp at h2
      have : i = 0 ∨ i = 1 := by simp at hi; omega
      rcases this with rfl | rfl
      · simp at h1 h2
        subst h1 h2
        exact .inr (.inl ⟨_, rfl, ho⟩)
      · simp at h1 h2
        subst h1 h2
        exact .inr (.inr ⟨_, rfl, ho⟩)
end Go.Proofs.YtcnkbjipogngaaaDoor.NormT

namespace Go.Proofs.YtcnkbjipogngaaaDoor.NormS
open Go Go.Proofs.YtcnkbjipogngaaaDoor.GH NormC NormT

variable {g : Gram} {nl : List Bool} {N : Nat}

theorem flat_pb {y : Bs} (h : y ∈ (rulesG g).flatten) : ∃ i k, PB g i k y := by
  obtain ⟨l, hl, hy⟩ := List.mem_flatten.1 h
  obtain ⟨i, hi⟩ := List.mem_iff_getElem?.1 hl
  obtain ⟨k, hk⟩ := List.mem_iff_getElem?.1 hy
  exact ⟨i, k, l, hi, hk⟩

theorem sto_iff (hn : NullOk N (rulesG g).flatten nl) {y : Bs} {i : Nat} {b : Int} : StO nl y i b ↔ ldAt g y i b := by
  unfold StO ldAt
  constructor
  · rintro ⟨h1, h2 | ⟨m, h2, h3⟩⟩
    · exact ⟨h1, .inl h2⟩
    · exact ⟨h1, .inr ⟨m, h2, (hn.iff m).1 h3⟩⟩
  · rintro ⟨h1, h2 | ⟨m, h2, h3⟩⟩
    · exact ⟨h1, .inl h2⟩
    · exact ⟨h1, .inr ⟨m, h2, (hn.iff m).2 h3⟩⟩

theorem ed_iff (hok : ∀ x ∈ (rulesG g).flatten, BsOk N x) (hn : NullOk N (rulesG g).flatten nl) {a b : Int} : Ed (rulesG g).flatten nl a b ↔ ∃ i k y, PB g i k y ∧ y.1 = a ∧ leads g y b := by
  constructor
  · rintro ⟨x, hx, h1, j, hj⟩
    obtain ⟨i, k, hp⟩ := flat_pb hx
    exact ⟨i, k, x, hp, h1, (leads_at (hok x hx).len).2 ⟨j, (List.getElem?_eq_some_iff.1 hj.1).1, (sto_iff hn).1 hj⟩⟩
  · rintro ⟨i, k, y, hp, h1, hl⟩
    obtain ⟨j, _, hj⟩ := (leads_at (hok y (pb_mem hp)).len).1 hl
    exact ⟨y, pb_mem hp, h1, j, (sto_iff hn).2 hj⟩

theorem lead_range (hok : ∀ x ∈ (rulesG g).flatten, BsOk N x) {i k : Nat} {y : Bs} (hp : PB g i k y) {b : Int} (hl : leads g y b) : 0 ≤ b ∧ b < N := by
  obtain ⟨j, _, hj⟩ := (leads_at (hok y (pb_mem hp)).len).1 hl
  exact (hok y (pb_mem hp)).right b (List.mem_of_getElem? hj.1)

theorem vi_ch (hok : ∀ x ∈ (rulesG g).flatten, BsOk N x) (hn : NullOk N (rulesG g).flatten nl) {x : Tree} {a b : Int} (h : Vi (Ste (rulesG g).flatten nl) N a b) : ∀ n, Ch g x b n → ∃ n', Ch g x a n' := by
  have one : ∀ {a b : Int}, Ste (rulesG g).flatten nl a b → ∀ n, Ch g x b n → ∃ n', Ch g x a n' := by
    intro a b h n hc
    rcases h with rfl | h
    · exact ⟨n, hc⟩
    · obtain ⟨i, k, y, hp, h1, hl⟩ := (ed_iff hok hn).1 h
      subst h1
      exact ⟨n + 1, .step hp hl hc⟩
  induction h with
  | one he => exact one he
  | cons he _ _ _ ih =>
    intro n hc
    obtain ⟨n', h'⟩ := ih n hc
    exact one he n' h'

theorem node_iff (hok : ∀ x ∈ (rulesG g).flatten, BsOk N x) (hn : NullOk N (rulesG g).flatten nl) {m a : Int} {l r : Tree} :
    (∃ n, Ch g (.mk m a [l, r]) m n) ↔ ∃ k : Nat, k < N ∧ Vi (Ste (rulesG g).flatten nl) N m (k : Int) ∧ ((k : Int), [l.rule, r.rule]) ∈ (rulesG g).flatten := by
  constructor
  · rintro ⟨n, h⟩
    have key : ∀ {c : Int} {n : Nat}, Ch g (.mk m a [l, r]) c n → ∃ k : Nat, k < N ∧ Vi (Ste (rulesG g).flatten nl) N c (k : Int) ∧ ((k : Int), [l.rule, r.rule]) ∈ (rulesG g).flatten := by
      intro c n h
      induction h with
      | @last i k b hp hf =>
        have hb := hok b (pb_mem hp)
        rcases hf with ⟨l', r', h, h'⟩ | ⟨h, _⟩
        · injection h with e h
          injection h with e' _
          subst e e'
          obtain ⟨c, hc⟩ := Int.eq_ofNat_of_zero_le hb.left.1
          have hl := hb.left
          rw [hc] at hl ⊢
          refine ⟨c, by omega, .one (.inl rfl), ?_⟩
          have : b = ((c : Int), [l.rule, r.rule]) := Prod.ext hc h'
          rw [← this]; exact pb_mem hp
        · cases h
      | @step i k b n' j hp hl _ ih =>
        obtain ⟨k', h1, h2, h3⟩ := ih
        have hr := lead_range hok hp hl
        exact ⟨k', h1, .cons (.inr ((ed_iff hok hn).2 ⟨i, k, b, hp, rfl, hl⟩)) hr.1 hr.2 h2, h3⟩
    exact key h
  · rintro ⟨k, _, h2, h3⟩
    obtain ⟨i, j, hp⟩ := flat_pb h3
    exact vi_ch hok hn h2 1 (.last (b := ((k : Int), [l.rule, r.rule])) hp (.inl ⟨l, r, rfl, rfl⟩))

theorem leaf_iff (hok : ∀ x ∈ (rulesG g).flatten, BsOk N x) (hn : NullOk N (rulesG g).flatten nl) {m a : Int} :
    (∃ c, Co g (.mk m a []) c) ↔ 0 ≤ a ∧ a < g.terms ∧ Vi (Ste (rulesG g).flatten nl) N m (nT g + a) := by
  constructor
  · rintro ⟨c, h⟩
    have key : ∀ {c : Int} {n : Nat}, Ch g (.mk m a []) c n → Vi (Ste (rulesG g).flatten nl) N c (nT g + a) := by
      intro c n h
      induction h with
      | @last i k b hp hf =>
        rcases hf with ⟨l', r', h, _⟩ | ⟨_, hl⟩
        · cases h
        · exact .one (.inr ((ed_iff hok hn).2 ⟨i, k, b, hp, rfl, hl⟩))
      | @step i k b n' j hp hl _ ih =>
        have hr := lead_range hok hp hl
        exact .cons (.inr ((ed_iff hok hn).2 ⟨i, k, b, hp, rfl, hl⟩)) hr.1 hr.2 ih
    cases h with
    | term a h0 h1 => exact ⟨h0, h1, .one (.inl rfl)⟩
    | leaf h0 h1 hc => exact ⟨h0, h1, key hc⟩
  · rintro ⟨h0, h1, hv⟩
    have key : ∀ {c b : Int}, Vi (Ste (rulesG g).flatten nl) N c b → b = nT g + a → c = nT g + a ∨ ∃ n, Ch g (.mk m a []) c n := by
      intro c b h
      have one : ∀ {c b : Int}, Ste (rulesG g).flatten nl c b → (b = nT g + a ∨ ∃ n, Ch g (.mk m a []) b n) → c = nT g + a ∨ ∃ n, Ch g (.mk m a []) c n := by
        intro c b h hb
        rcases h with rfl | h
        · exact hb
        · obtain ⟨i, k, y, hp, e, hl⟩ := (ed_iff hok hn).1 h
          subst e
          rcases hb with rfl | ⟨n, hb⟩
          · exact .inr ⟨1, .last hp (.inr ⟨rfl, hl⟩)⟩
          · exact .inr ⟨n + 1, .step hp hl hb⟩
      induction h with
      | one he => exact fun e => one he (.inl e)
      | cons he _ _ _ ih => exact fun e => one he (ih e)
    rcases key hv rfl with rfl | ⟨n, hc⟩
    · exact ⟨0, .term a h0 h1⟩
    · exact ⟨n, .leaf h0 h1 hc⟩

/-! ### short chains -/
inductive ChL (g : Gram) (x : Tree) : Int → List Int → Prop
  | last {i k : Nat} {b : Bs} : PB g i k b → fitsB g b x → ChL g x b.1 [b.1]
  | step {i k : Nat} {b : Bs} {n : Int} {l : List Int} : PB g i k b → leads g b n → ChL g x n l → ChL g x b.1 (b.1 :: l)

theorem ChL.ch {x : Tree} {m : Int} {l : List Int} (h : ChL g x m l) : Ch g x m l.length := by
  induction h with
  | last hp hf => exact .last hp hf
  | step hp hl _ ih => exact .step hp hl ih
theorem ChL.mem {x : Tree} {m : Int} {l : List Int} (h : ChL g x m l) : ∀ c ∈ l, ∃ i k b, PB g i k b ∧ b.1 = c := by
  induction h with
  | last hp _ => intro c hc; rw [List.mem_singleton.1 hc]; exact ⟨_, _, _, hp, rfl⟩
  | step hp _ _ ih =>
    intro c hc
    rcases List.mem_cons.1 hc with rfl | hc
    · exact ⟨_, _, _, hp, rfl⟩
    · exact ih c hc
theorem ChL.tail {x : Tree} {m : Int} {l : List Int} (h : ChL g x m l) : ∀ c ∈ l, ∃ l', ChL g x c l' ∧ l' <:+ l := by
  induction h with
  | last hp hf => intro c hc; rw [List.mem_singleton.1 hc]; exact ⟨_, .last hp hf, List.suffix_refl _⟩
  | step hp hl h ih =>
    intro c hc
    rcases List.mem_cons.1 hc with rfl | hc
    · exact ⟨_, .step hp hl h, List.suffix_refl _⟩
    · obtain ⟨l', h1, h2⟩ := ih c hc
      exact ⟨l', h1, h2.trans (List.suffix_cons _ _)⟩
theorem ch_nodup {x : Tree} {m : Int} {n : Nat} (h : Ch g x m n) : ∃ l, ChL g x m l ∧ l.Nodup := by
  induction h with
  | last hp hf => exact ⟨_, .last hp hf, by simp⟩
  | @step i k b n j hp hl _ ih =>
    obtain ⟨l, h1, h2⟩ := ih
    by_cases hb : b.1 ∈ l
    · obtain ⟨l', h3, h4⟩ := h1.tail _ hb
      exact ⟨l', h3, h2.sublist h4.sublist⟩
    · exact ⟨_, .step hp hl h1, List.nodup_cons.2 ⟨hb, h2⟩⟩
theorem nodup_len : ∀ (k : Nat) (l : List Int), l.Nodup → (∀ x ∈ l, 0 ≤ x ∧ x < (k : Int)) → l.length ≤ k := by
  intro k
  induction k with
  | zero =>
    intro l _ h
    cases l with
    | nil => exact Nat.le_refl _
    | cons x l => have := h x (List.mem_cons_self ..); omega
  | succ k ih =>
    intro l hn h
    have h1 := ih (l.erase (k : Int)) (hn.erase _) fun x hx => by
      have := h x (List.mem_of_mem_erase hx)
      have hne : x ≠ (k : Int) := fun e => by
        subst e
        exact (List.Nodup.not_mem_erase hn) hx
      omega
    have h2 := List.length_erase (a := (k : Int)) (l := l)
    split at h2 <;> omega

theorem ch_short (hv : Valid g) {x : Tree} {m : Int} {n : Nat} (h : Ch g x m n) : ∃ n', n' ≤ 82 ∧ Ch g x m n' := by
  obtain ⟨l, h1, h2⟩ := ch_nodup h
  refine ⟨l.length, nodup_len 82 l h2 fun c hc => ?_, h1.ch⟩
  obtain ⟨i, k, b, hp, rfl⟩ := h1.mem c hc
  obtain ⟨rl, hl, hb⟩ := List.mem_flatten.1 (pb_mem hp)
  have := ((rulesG_ok hv rl hl).2 b hb).left
  have := nN_le hv
  omega

theorem co_short (hv : Valid g) {x : Tree} {c : Nat} (h : Co g x c) : ∃ c', c' ≤ 82 * x.nodes ∧ Co g x c' := by
  induction h with
  | term a h0 h1 => exact ⟨0, Nat.zero_le _, .term a h0 h1⟩
  | leaf h0 h1 hc =>
    obtain ⟨n', a, b⟩ := ch_short hv hc
    exact ⟨n', by simp only [Tree.nodes, nodesL]; omega, .leaf h0 h1 b⟩
  | node hc _ _ ih1 ih2 =>
    obtain ⟨n', a, b⟩ := ch_short hv hc
    obtain ⟨c1, a1, b1⟩ := ih1
    obtain ⟨c2, a2, b2⟩ := ih2
    exact ⟨n' + c1 + c2, by simp only [Tree.nodes, nodesL]; omega, .node b b1 b2⟩

theorem around_none {E : Nat} (h : ∀ m, ¬ DerE (rulesG g).flatten m) (b : Bs) (n : Int) (l l' : List Tree) (ha : ArOk g E b n l l') : ArOk g 0 b n l l' := by
  rcases ha with h1 | ⟨o, e, _, h2, _⟩ | ⟨o, e, _, h2, _⟩
  · exact .inl h1
  · exact absurd (dv_none h2 rfl) (h o)
  · exact absurd (dv_none h2 rfl) (h o)
end Go.Proofs.YtcnkbjipogngaaaDoor.NormS

