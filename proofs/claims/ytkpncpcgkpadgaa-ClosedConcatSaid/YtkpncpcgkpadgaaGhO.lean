/- GH: from the reading of a call's arguments to the ghost heap, and from a contract to the row. -/
import Derived.Test.YtkpncpcgkpadgaaGhN
import Derived.WalkKit
import Derived.ProofKit
import Derived.OpenShut
import Derived.JoinedCond
import Derived.Carry
import Derived.Deep.Slices
set_option linter.all false
namespace Go.Proofs.Ytkpncpcgkpadgaa.GH
open Go Go.RowKit Go.ChangeShapes

/-- All that stands before the call is known; nothing may be written. -/
def ofWorld (W : World) : GHeap := { mem := W.cell?, wr := fun _ => False, obj := fun _ => none, w0 := W, n0 := W.heap.size }

theorem Inv.ofWorld (W : World) : Inv (ofWorld W) (fun _ => none) W where
  mem _ _ h := h
  wr _ h := h.elim
  lo _ h := h.elim
  obj _ _ h := by cases h
  box _ _ h := by cases h
  dis _ _ h := by cases h
  blo _ _ h := by cases h
  below := Below.refl _ _
  size := Nat.le_refl _
  pl _ h := h.elim

theorem calls_true {P : Program} {f : FuncId} {args : List Value} {W : World} (h : ACalls P f args (ofWorld W) fun v L' => v = .bool true ∧ Le (ofWorld W) L') :
    Calls P f args.toArray W fun e w' => e = .returned (.bool true) ∧ Below W.heap.size W w' :=
  (h.2 _ _ (Inv.ofWorld W)).mono fun _ _ ⟨_, _, e, i, hv, hl⟩ => ⟨by rw [e, hv], by have := i.below; rw [hl.w0, hl.n0] at this; exact this⟩

/-! ### weights of readings -/
structure Bk where
  b : {H : Type} → DataW H → Nat
  bs : {H : Type} → List (DataW H) → Nat
  nil : ∀ {H : Type}, bs (H := H) [] = 0
  cons : ∀ {H : Type} (d : DataW H) (r : List (DataW H)), bs (d :: r) = b d + bs r
  lit : ∀ {H : Type} (l : Lit), 1 ≤ b (H := H) (.lit l)
  str : ∀ {H : Type} (x : List UInt8), b (H := H) (.lit (.string x)) = x.length + 1
  nl : ∀ {H : Type}, b (H := H) .nil = 1
  sl : ∀ {H : Type} (e s : List (DataW H)), b (.slice e s) = bs e + bs s + 1
  ag : ∀ {H : Type} (e : List (DataW H)), b (.agg e) = bs e + 1

/-- How data of a kind stand in cells, what is known of every one, how much it weighs. -/
structure De (α : Type) where
  R : Rp α
  ok : α → Prop
  wt : α → Nat

structure Dec (P : Program) (M : Bk) (t : TypeId) {α : Type} (D : De α) : Prop where
  go : ∀ {H : Type} {enc : TypeId × Value → H} {W : World} {sp : Nat → Bool} {hd : Bool} {fuel : Nat} {cs : List Value} {x : DataW H × List MemPlace}, DataW.trod enc P W 0 sp hd fuel t cs = some x →
    ∃ y : α, D.R.K (ofWorld W) cs y ∧ D.ok y ∧ D.wt y ≤ M.b x.1

def okI (x : Int) : Prop := -9223372036854775808 ≤ x ∧ x ≤ 9223372036854775807
def dI : De Int := ⟨rI, okI, fun _ => 1⟩
def dB : De Bool := ⟨rB, fun _ => True, fun _ => 1⟩
def dS {α : Type} (D : De α) : De (List α) := ⟨rS D.R, fun xs => ∀ x ∈ xs, D.ok x, fun xs => (xs.map D.wt).sum + 1⟩

theorem Dec.int {P : Program} {M : Bk} {t : TypeId} (ht : P.underlying t = some (.int .i64)) : Dec P M t dI := by
  constructor
  intro H enc W sp hd fuel cs x h
  obtain ⟨n, rfl, rfl, hw⟩ := DataW.trod_int ht h
  refine ⟨n, rfl, ?_, M.lit _⟩
  simp only [Lit.wf, IntKind.min, IntKind.max, IntKind.signed, IntKind.bits, Bool.and_eq_true, decide_eq_true_eq] at hw
  exact ⟨by simpa using hw.1, by have := hw.2; simp at this; omega⟩

theorem Dec.bool {P : Program} {M : Bk} {t : TypeId} (ht : P.underlying t = some .bool) : Dec P M t dB := by
  constructor
  intro H enc W sp hd fuel cs x h
  have key : ∃ b : Bool, cs = [.bool b] ∧ x = (.lit (.bool b), []) := by
    cases fuel with
    | zero => simp [DataW.trod] at h
    | succ n =>
      unfold DataW.trod at h
      rw [ht] at h
      split at h <;> simp_all
  obtain ⟨b, rfl, rfl⟩ := key
  exact ⟨b, rfl, trivial, M.lit _⟩

theorem cells_reads {W : World} {a : Addr} {n : Nat} {cs : List Value} (h : W.cells? 0 a n = some cs) : cs.length = n ∧ (ofWorld W).reads a 0 cs := by
  obtain ⟨_, hl, hc⟩ := World.cells?_some h
  refine ⟨hl, reads_iff.2 fun j v hj => ?_⟩
  have hlt : j < cs.length := (List.getElem?_eq_some_iff.1 hj).1
  have := hc j (by omega)
  show W.cell? (a.add (0 + j)) = some v
  rw [Nat.zero_add, this, hj]

/-- Choose below a bound. -/
theorem list_of {α : Type} {p : Nat → α → Prop} : ∀ n : Nat, (∀ i, i < n → ∃ x, p i x) → ∃ xs : List α, xs.length = n ∧ ∀ i x, xs[i]? = some x → p i x
  | 0, _ => ⟨[], rfl, fun i x h => by simp at h⟩
  | n + 1, h => by
    obtain ⟨xs, hl, hx⟩ := list_of n fun i hi => h i (by omega)
    obtain ⟨y, hy⟩ := h n (by omega)
    refine ⟨xs ++ [y], by simp [hl], fun i x hi => ?_⟩
    rcases Nat.lt_or_ge i n with h' | h'
    · rw [List.getElem?_append_left (by omega)] at hi; exact hx i x hi
    · rw [List.getElem?_append_right (by omega)] at hi
      have : i = n := by
        have := (List.getElem?_eq_some_iff.1 hi).1
        simp at this; omega
      subst this
      simp [hl] at hi; subst hi; exact hy

theorem bs_ge {M : Bk} {α H : Type} {wt : α → Nat} : ∀ {xs : List α} {ds : List (DataW H)}, xs.length = ds.length → (∀ (i : Nat) x d, xs[i]? = some x → ds[i]? = some d → wt x ≤ M.b d) → (xs.map wt).sum ≤ M.bs ds
  | [], [], _, _ => by simp
  | [], _ :: _, h, _ => by simp at h
  | _ :: _, [], h, _ => by simp at h
  | x :: xs, d :: ds, h, hx => by
    have := bs_ge (M := M) (wt := wt) (xs := xs) (ds := ds) (by simpa using h) fun i x d h1 h2 => hx (i + 1) x d (by simpa using h1) (by simpa using h2)
    have h0 := hx 0 x d rfl rfl
    rw [M.cons]; simp only [List.map_cons, List.sum_cons]; omega

theorem Dec.slice {P : Program} {M : Bk} {t e : TypeId} {α : Type} {D : De α} (ht : P.underlying t = some (.slice e)) (hD : Dec P M e D) (hc : P.cellsOf e = D.R.sz) : Dec P M t (dS D) := by
  constructor
  intro H enc W sp hd fuel cs x h
  rcases Deep.open_slice ht h with ⟨rfl, rfl⟩ | ⟨a, len, cap, m, n, Df, Pl, rfl, hb, hl, hm, hmm, rfl, hx⟩
  · exact ⟨[], ⟨⟨none, 0, 0⟩, rfl, IsSl.nil _ _ _ _⟩, fun x h => by simp at h, by rw [M.nl]; simp [dS]⟩
  · have hlm : len ≤ m := by rw [hmm]; split <;> omega
    obtain ⟨xs, hxl, hxs⟩ := list_of (p := fun i (y : α) => ∃ cs', W.cells? 0 (a.add (i * P.cellsOf e)) (P.cellsOf e) = some cs' ∧ D.R.K (ofWorld W) cs' y ∧ D.ok y ∧ D.wt y ≤ M.b (Df i)) len fun i hi => by
      obtain ⟨cs', h1, h2⟩ := hx i (by omega)
      obtain ⟨y, k1, k2, k3⟩ := hD.go h2
      exact ⟨y, cs', h1, k1, k2, k3⟩
    refine ⟨xs, ⟨⟨some a, len, cap⟩, rfl, hxl.symm, hl, fun i x hi => ?_⟩, fun x hx' => ?_, ?_⟩
    · obtain ⟨cs', h1, h2, _⟩ := hxs i x hi
      rw [hc] at h1
      exact ⟨a, cs', rfl, h2, (cells_reads h1).2⟩
    · obtain ⟨i, hi, rfl⟩ := List.getElem_of_mem hx'
      obtain ⟨_, _, _, h3, _⟩ := hxs i _ (List.getElem?_eq_getElem hi)
      exact h3
    · rw [M.sl]
      have := bs_ge (M := M) (wt := D.wt) (xs := xs) (ds := (List.range len).map Df) (by simp [hxl]) fun i x d h1 h2 => by
        obtain ⟨_, _, _, _, h4⟩ := hxs i x h1
        have : d = Df i := by
          have hi : i < len := by rw [← hxl]; exact (List.getElem?_eq_some_iff.1 h1).1
          simp [hi] at h2; exact h2.symm
        rw [this]; exact h4
      show (xs.map D.wt).sum + 1 ≤ _
      omega

theorem take_drop_two {cs : List Value} {n0 n1 : Nat} (h : cs.length = n0 + n1) : cs = ((cs.drop 0).take n0) ++ ((cs.drop n0).take n1) := by
  conv => lhs; rw [← List.take_append_drop n0 cs]
  rw [List.drop_zero, List.take_of_length_le (l := cs.drop n0) (by simp; omega)]

theorem Dec.struct2 {P : Program} {M : Bk} {t : TypeId} {f0 f1 : Field} {α β γ : Type} {D0 : De α} {D1 : De β} {D : De γ} (mk : α → β → γ) (ht : P.underlying t = some (.struct #[f0, f1]))
    (h0 : Dec P M f0.type D0) (h1 : Dec P M f1.type D1) (c : P.cellsOf t = P.cellsOf f0.type + P.cellsOf f1.type) (o0 : f0.offset = 0) (o1 : f1.offset = P.cellsOf f0.type)
    (hK : ∀ L c0 c1 x y, D0.R.K L c0 x → D1.R.K L c1 y → D.R.K L (c0 ++ c1) (mk x y)) (hok : ∀ x y, D0.ok x → D1.ok y → D.ok (mk x y)) (hwt : ∀ x y, D.wt (mk x y) ≤ D0.wt x + D1.wt y + 1) : Dec P M t D := by
  constructor
  intro H enc W sp hd fuel cs x h
  obtain ⟨y0, y1, n, rfl, hl, g0, g1⟩ := trod_struct2 ht h
  obtain ⟨z0, a0, b0, w0⟩ := h0.go g0
  obtain ⟨z1, a1, b1, w1⟩ := h1.go g1
  refine ⟨mk z0 z1, ?_, hok _ _ b0 b1, ?_⟩
  · have := hK _ _ _ _ _ a0 a1
    rw [o0, o1, ← take_drop_two (by omega)] at this
    exact this
  · refine Nat.le_trans (hwt _ _) ?_
    show _ ≤ M.b (.agg [y0.1, y1.1])
    rw [M.ag, M.cons, M.cons, M.nil]; omega

def dSym : De Sym := ⟨rSym, fun s => okI s.n, fun _ => 3⟩
def dRule : De Rule := ⟨rRule, fun r => okI r.left ∧ ∀ s ∈ r.right, okI s.n, fun r => r.right.length * 3 + 3⟩

theorem sum_const {α : Type} (k : Nat) : ∀ xs : List α, (xs.map fun _ => k).sum = xs.length * k
  | [] => by simp
  | x :: xs => by have := sum_const k xs; simp only [List.map_cons, List.sum_cons, List.length_cons, this, Nat.add_mul]; omega

theorem Dec.sym {P : Program} {M : Bk} {t : TypeId} {f0 f1 : Field} (ht : P.underlying t = some (.struct #[f0, f1])) (h0 : P.underlying f0.type = some .bool) (h1 : P.underlying f1.type = some (.int .i64))
    (c : P.cellsOf t = P.cellsOf f0.type + P.cellsOf f1.type) (o0 : f0.offset = 0) (o1 : f1.offset = P.cellsOf f0.type) : Dec P M t dSym :=
  Dec.struct2 (D0 := dB) (D1 := dI) (fun x y => ⟨x, y⟩) ht (.bool h0) (.int h1) c o0 o1 (fun L c0 c1 x y e0 e1 => by
    have e0 : c0 = [.bool x] := e0
    have e1 : c1 = [.int .i64 y] := e1
    show c0 ++ c1 = _
    rw [e0, e1]; rfl) (fun _ _ _ h => h) (fun _ _ => Nat.le_refl _)

theorem Dec.rule {P : Program} {M : Bk} {t e : TypeId} {f0 f1 : Field} (ht : P.underlying t = some (.struct #[f0, f1])) (h0 : P.underlying f0.type = some (.int .i64)) (h1 : P.underlying f1.type = some (.slice e)) (he : Dec P M e dSym)
    (ce : P.cellsOf e = 2) (c : P.cellsOf t = P.cellsOf f0.type + P.cellsOf f1.type) (o0 : f0.offset = 0) (o1 : f1.offset = P.cellsOf f0.type) : Dec P M t dRule :=
  Dec.struct2 (D0 := dI) (D1 := dS dSym) (fun x y => ⟨x, y⟩) ht (.int h0) (.slice h1 he ce) c o0 o1 (fun L c0 c1 x y e0 e1 => by
    have e0 : c0 = [.int .i64 x] := e0
    obtain ⟨s, e1, hs⟩ := e1
    exact ⟨s, by rw [e0, e1]; rfl, hs⟩) (fun _ _ h h' => ⟨h, h'⟩) (fun x y => by
    show y.length * 3 + 3 ≤ 1 + ((y.map fun _ => 3).sum + 1) + 1
    rw [sum_const]; omega)

/-! ### the arguments -/
section
variable {H : Type} {enc : TypeId × Value → H} {P : Program} {W : World} {r : Reach} {base : Nat} {sp : Nat → Bool} {t : TypeId} {v : Value} {d : DataW H} {ps : List MemPlace} {M : Bk}

theorem arg_int (ht : P.underlying t = some (.int .i64)) (hval : Value.okWide P W r base t v) (hd : DataW.Trod enc P W 0 sp true t v d ps) : ∃ x : Int, v = .int .i64 x ∧ okI x ∧ 1 ≤ M.b d := by
  obtain ⟨n, rfl⟩ := WideShapes.okWide_int ht hval
  obtain ⟨fuel, h⟩ := hd
  obtain ⟨y, k, o, w⟩ := (Dec.int (M := M) ht).go h
  have : [Value.int IntKind.i64 n] = [Value.int IntKind.i64 y] := k
  exact ⟨n, rfl, by injection this with this _; injection this with _ this; rw [this]; exact o, w⟩

theorem arg_bool (ht : P.underlying t = some .bool) (hval : Value.okWide P W r base t v) (_hd : DataW.Trod enc P W 0 sp true t v d ps) : ∃ x : Bool, v = .bool x :=
  WideShapes.okWide_bool ht hval

theorem arg_slice {e : TypeId} {α : Type} {D : De α} (ht : P.underlying t = some (.slice e)) (hD : Dec P M e D) (hc : P.cellsOf e = D.R.sz) (hval : Value.okWide P W r base t v) (hd : DataW.Trod enc P W 0 sp true t v d ps) :
    ∃ (s : Sl) (xs : List α), v = .slice s.a s.n s.c ∧ IsSl D.R (ofWorld W) s xs ∧ (∀ x ∈ xs, D.ok x) ∧ (xs.map D.wt).sum + 1 ≤ M.b d := by
  obtain ⟨a, n, c, rfl⟩ := WideShapes.okWide_slice ht hval
  obtain ⟨fuel, h⟩ := hd
  obtain ⟨xs, ⟨s, k, hs⟩, o, w⟩ := (Dec.slice ht hD hc).go h
  have : Value.slice a n c = Value.slice s.a s.n s.c := by
    have : [Value.slice a n c] = [Value.slice s.a s.n s.c] := k
    injection this
  exact ⟨s, xs, this, hs, o, w⟩

theorem arg_struct {fs : Array Field} {α : Type} {D : De α} (ht : P.underlying t = some (.struct fs)) (hD : Dec P M t D) (hval : Value.okWide P W r base t v) (hd : DataW.Trod enc P W 0 sp true t v d ps) :
    ∃ (cs : List Value) (x : α), v = .agg cs.toArray ∧ D.R.K (ofWorld W) cs x ∧ D.ok x ∧ D.wt x ≤ M.b d := by
  obtain ⟨cs, rfl, _⟩ := WideShapes.okWide_struct ht hval
  obtain ⟨fuel, h⟩ := hd
  obtain ⟨x, k, o, w⟩ := hD.go h
  exact ⟨cs.toList, x, by simp, k, o, w⟩
end

/-- The arguments' types, values and readings, side by side. -/
def AllIn {H : Type} (enc : TypeId × Value → H) (P : Program) (W : World) (base : Nat) : List TypeId → List Value → List (DataW H) → Prop
  | [], vs, ds => vs = [] ∧ ds = []
  | t :: ts, vs, ds => ∃ v vs' d ds', vs = v :: vs' ∧ ds = d :: ds' ∧ Value.okWide P W .any base t v ∧ (∃ p, DataW.Trod enc P W 0 (fun _ => true) true t v d p) ∧ AllIn enc P W base ts vs' ds'

theorem allIn_list {H : Type} {enc : TypeId × Value → H} {P : Program} {W : World} {base : Nat} : ∀ {ts : List TypeId} {vs : List Value} {ds : List (DataW H)} {ps : List MemPlace},
    (∀ (j : Nat) t v, ts[j]? = some t → vs[j]? = some v → Value.okWide P W .any base t v) → DataW.TrodAll enc P W 0 (fun _ => true) true ts vs ds ps → AllIn enc P W base ts vs ds
  | [], vs, ds, ps, _, h => by
    obtain ⟨rfl, rfl, _⟩ := trodAll_nil h
    exact ⟨rfl, rfl⟩
  | t :: ts, vs, ds, ps, hv, h => by
    obtain ⟨v, vs1, d, ds1, p, q, rfl, rfl, rfl, h1, h2⟩ := trodAll_cons h
    exact ⟨v, vs1, d, ds1, rfl, rfl, hv 0 t v rfl rfl, ⟨p, h1⟩, allIn_list (fun j t' v' e e' => hv (j + 1) t' v' (by simpa using e) (by simpa using e')) h2⟩

theorem allIn_of {H : Type} {enc : TypeId × Value → H} {P : Program} {W : World} {base : Nat} {ts : Array TypeId} {vs : Array Value} {vars : List String} {apart : Bool} {ds gs : List (DataW H)} {ps : List MemPlace}
    (hv : ∀ (j : Nat) t v, ts[j]? = some t → vs[j]? = some v → Value.okWide P W .any base t v) (h : DataW.Whole enc P ts.toList vars apart W vs.toList ds gs ps) (hvars : vars = []) : AllIn enc P W base ts.toList vs.toList ds ∧ gs = [] := by
  obtain ⟨p, q, hA, hV, _⟩ := h
  rw [hvars] at hV
  exact ⟨allIn_list (fun j t v e e' => hv j t v (by simpa using e) (by simpa using e')) hA, (trodVars_none hV).1⟩

/-! ### the row -/
theorem trodAll_stays {H : Type} {enc : TypeId × Value → H} {P : Program} {W W' : World} (hl : laidOutB P = true) (hb : Below W.heap.size W W') {sp' : Nat → Bool} :
    ∀ {ts : List TypeId} {vs : List Value} {ds : List (DataW H)} {ps : List MemPlace}, (∀ t ∈ ts, P.readableRec t = true ∧ t < P.types.size) → DataW.TrodAll enc P W 0 (fun _ => true) true ts vs ds ps →
      (∀ x ∈ ps, x.block < W.heap.size) → (∀ x ∈ ps, sp' x.block = true) → DataW.TrodAll enc P W' 0 sp' true ts vs ds ps
  | [], vs, ds, ps, _, h, _, _ => by
    obtain ⟨rfl, rfl, rfl⟩ := trodAll_nil h
    exact trodAll_mk0
  | t :: ts, vs, ds, ps, ht, h, hlt, hsp => by
    obtain ⟨v, vs1, d, ds1, p, q, rfl, rfl, rfl, h1, h2⟩ := trodAll_cons h
    have ht0 := ht t (List.mem_cons_self ..)
    exact ⟨p, q, WideElems.Trod_stays hl ht0.1 ht0.2 h1 (fun x hx => hb.same (hlt x (List.mem_append_left _ hx))) (fun x hx => hsp x (List.mem_append_left _ hx)),
      trodAll_stays hl hb (fun t' ht' => ht t' (List.mem_cons_of_mem _ ht')) h2 (fun x hx => hlt x (List.mem_append_right _ hx)) (fun x hx => hsp x (List.mem_append_right _ hx)), rfl⟩

theorem post_true {H : Type} {enc : TypeId × Value → H} {P : Program} {fn : Func} {s : ChangeSpec} {apart fresh handsOn again : Bool} {W W' : World} {args : Array Value} {ds gs : List (DataW H)} {before : List MemPlace} {tb : TypeId}
    (hW : DataW.Whole enc P fn.params.toList s.vars apart W args.toList ds gs before) (hl : laidOutB P = true) (hts : ∀ t ∈ fn.params.toList, P.readableRec t = true ∧ t < P.types.size)
    (hv : s.vars = []) (hr : fn.resultTypes = #[tb]) (htb : P.underlying tb = some .bool) (hs : s.fn H ds = { results := [.lit (.bool true)], args := ds }) (hb : Below W.heap.size W W') :
    s.post enc P fn apart fresh handsOn again W args (.bool true) W' := by
  have hlt : ∀ x ∈ before, x.block < W.heap.size := fun x hx => hW.lt x hx
  have hW0 := hW
  obtain ⟨p, q, hA, hV, rfl, hfz, hnd⟩ := hW
  rw [hv] at hV
  obtain ⟨rfl, rfl⟩ := trodVars_none hV
  have hs' : s.fn H (ds ++ []) = { results := [.lit (.bool true)], args := ds } := by rw [List.append_nil]; exact hs
  have hargs : ∀ sp : Nat → Bool, (∀ x ∈ p ++ [], sp x.block = true) → DataW.TrodAll enc P W' 0 sp true fn.params.toList args.toList (s.fn H (ds ++ [])).args p := by
    intro sp hsp
    rw [hs']
    exact trodAll_stays hl hb hts hA (fun x hx => hlt x (by simpa using hx)) (fun x hx => hsp x (by simpa using hx))
  have hres : ∀ (b : Nat) (sp : Nat → Bool) (hd : Bool), DataW.TrodAll enc P W' b sp hd fn.resultTypes.toList ((Value.bool true).resultList fn.resultTypes.size) (s.fn H (ds ++ [])).results [] := by
    intro b sp hd
    rw [hs', hr]
    exact trodAll_cons_mk (shut_bool htb _) trodAll_mk0
  have hvars : ∀ sp : Nat → Bool, DataW.TrodVars enc P W' sp s.vars (s.fn H (ds ++ [])).vars [] := by
    intro sp
    rw [hs', hv]
    rfl
  refine ⟨ds, [], p ++ [], [], p, [], hW0, hres _ _ _, hargs _ (fun x hx => by simpa using hlt x hx), hvars _, World.keptBut_mono (fun x hx => ⟨hx, .inr (.inl (by simpa using hx))⟩) (hb.frame (· ∈ p ++ [])), fun _ => ?_⟩
  refine ⟨ok_one hr rfl (okWide_bool_mk htb _), _, _, ([] ++ p) ++ [], ⟨[] ++ p, [], trodAll_append (hargs _ (fun _ _ => rfl)) (hres _ _ _), hvars _, rfl, ?_, ?_⟩, ?_⟩
  · intro b off hp
    have hp' : MemPlace.cell b off ∈ p ++ [] := by simpa using hp
    have hlt' : b < W.heap.size := hlt _ hp'
    rw [hb.frozen hlt']
    exact hfz b off hp'
  · intro ha
    simpa using hnd ha
  · intro x hx _
    simpa using hx
end Go.Proofs.Ytkpncpcgkpadgaa.GH
