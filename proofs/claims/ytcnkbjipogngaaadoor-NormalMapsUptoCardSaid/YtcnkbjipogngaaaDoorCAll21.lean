/- Contracts of the program's functions. -/
import Derived.Test.YtcnkbjipogngaaaDoorLibD
import Derived.Test.YtcnkbjipogngaaaDoorCAll20
set_option linter.all false
namespace Go.Proofs.YtcnkbjipogngaaaDoor
open Go Go.Proofs.YtcnkbjipogngaaaDoor.GH

theorem Own.drop {α : Type} {L0 L : GHeap} {R : Rp α} {s : Sl} {xs : List α} (h : Own L0 R L s xs) {l : Nat} (hl : l ≤ xs.length) : Own L0 R L ⟨subA s.a s.c l R.sz, s.n - l, s.c - l⟩ (xs.drop l) := by
  have hn := h.sl.n
  have hc := h.sl.c
  refine ⟨h.sl.drop hl, fun h0 => ?_⟩
  have h0 : 0 < s.c - l := h0
  obtain ⟨a, h1, h2, h3, h4, h5⟩ := h.spare (by omega)
  cases l with
  | zero =>
    exact ⟨a, h1, h2, h3, h4, fun i g1 g2 => h5 i (by simpa using g1) (by simpa using g2)⟩
  | succ l =>
    refine ⟨a.add ((l + 1) * R.sz), ?_, ?_, ?_, ?_, fun i g1 g2 => ?_⟩
    · show (if s.c = l + 1 then s.a else s.a.map fun x => x.add ((l + 1) * R.sz)) = _
      rw [if_neg (by omega), h1]; rfl
    · rw [add_spot h2]
    · rw [add_block]; exact h3
    · rw [add_block]; exact h4
    · simp only at g1 g2
      rw [add_add]
      refine h5 _ ?_ ?_
      · have : s.n * R.sz = (l + 1) * R.sz + (s.n - (l + 1)) * R.sz := by rw [← Nat.add_mul]; congr 1; omega
        omega
      · have : s.c * R.sz = (l + 1) * R.sz + (s.c - (l + 1)) * R.sz := by rw [← Nat.add_mul]; congr 1; omega
        omega
end Go.Proofs.YtcnkbjipogngaaaDoor

namespace Go.Proofs.YtcnkbjipogngaaaDoor.NormT
open Go Go.Proofs.YtcnkbjipogngaaaDoor.GH

def rPl : Rp (Nat × Nat) := ⟨2, by decide, fun _ cs x => cs = [.int .i64 (x.1 : Int), .int .i64 (x.2 : Int)], fun h => by rw [h]; rfl, fun h => by rw [h]; rfl, fun _ h => h⟩
theorem nobPl {L : GHeap} {s : Sl} {xs : List (Nat × Nat)} (h : IsSl rPl L s xs) : IsSl rPl L.nob s xs := h.nobOf fun _ _ h => h

theorem CloneP_spec {L : GHeap} {s : Sl} {xs : List (Nat × Nat)} (hs : IsSl rPl L s xs) (hb : xs.length ≤ 1048576) :
    ACalls PP sl_Clone_normal_place_normal_place.id [.slice s.a s.n s.c] L fun v L' => ∃ s' : Sl, v = .slice s'.a s'.n s'.c ∧ Le L L' ∧ Own L rPl L' s' xs := by
  apply sl_Clone_normal_place_normal_place.go
  refine bcI (fun h => ⟨⟨none, 0, 0⟩, rfl, .refl L, ?_⟩) fun h => ?_
  · have : xs = [] := by
      cases xs with
      | nil => rfl
      | cons x xs => obtain ⟨a, _, h1, _⟩ := hs.at_ 0 x rfl; rw [h1] at h; cases h
    rw [this]; exact .nil _ _ _
  · intro b hu
    simp only [inL]
    have hle : Le L (L.alloc b [] 0) := Le.alloc hu _ _
    obtain ⟨cs, hc, hr⟩ := (hs.mono hle.toLeM).cells
    refine ⟨cs, ⟨hr, hc.one⟩, ?_⟩
    refine Own.append (R := rPl) (bytes := 16) (m := s.n) (Own.nil' L rPl _ _) hle hc hs.n.symm (.inl (by rw [hs.n]; simp; omega)) fun s' L' h1 h2 h3 _ _ => ⟨s', rfl, h1, h3⟩

theorem LeM.nobM {L L' : GHeap} (h : LeM L L') : LeM L.nob L'.nob := ⟨h.mem, h.wr, fun _ _ h => (by cases h), h.w0, h.n0⟩
theorem MM.upM {k : TypeId} {Lb L L' : GHeap} {r : Nat} {f : Value → Option Value} (h : MM k Lb L r f) (h1 : Le Lb L') (hl : LeM L L') : MM k Lb L' r f :=
  ⟨h1.nob, h1.obj, by rw [hl.n0]; exact h.n0, h.lb, let ⟨o, a, b⟩ := h.ob; ⟨o, hl.obj r o a, b⟩⟩
theorem own_setObj {α : Type} {L0 L : GHeap} {Q : Rp α} {s : Sl} {xs : List α} {r : Nat} {o : Obj} (hk : IsSl Q (L.setObj r o) s xs) (h : Own L0 Q L s xs) : Own L0 Q (L.setObj r o) s xs :=
  ⟨hk, fun hc => let ⟨a, h1, h2, h3, h4, h5⟩ := h.spare hc
    ⟨a, h1, h2, h3, fun hu => h4 ⟨hu.1, by
      have e : (if a.block = r then some o else L.obj a.block) = none := hu.2
      split at e
      · cases e
      · exact e⟩, h5⟩⟩

abbrev pkT : TypeId := mapT_map_int_Lnormal_place.k
variable {g : Gram} {b : Nat} {sg sr srl sn : Sl} {nl : List Bool}

structure EW (g : Gram) (H : GHeap) (f : Value → Option Value) (F : Int → Option (List (Nat × Nat))) : Prop where
  eq : ∀ c, (f (kyN c) = none ∧ F c = none) ∨ ∃ (s : Sl) (ps : List (Nat × Nat)), f (kyN c) = some (.slice s.a s.n s.c) ∧ F c = some ps ∧ IsSl rPl H s ps
  len : ∀ c ps, F c = some ps → ps.length + 1 ≤ cntM f (nN g).toNat
theorem EW.mono {H H' : GHeap} {f : Value → Option Value} {F : Int → Option (List (Nat × Nat))} (h : EW g H f F) (hl : LeM H H') : EW g H' f F :=
  ⟨fun c => (h.eq c).imp id fun ⟨s, ps, a, b, c⟩ => ⟨s, ps, a, b, c.mono hl⟩, h.len⟩
theorem EW.get {H : GHeap} {f : Value → Option Value} {F : Int → Option (List (Nat × Nat))} (h : EW g H f F) {c : Int} {ps : List (Nat × Nat)} (hc : F c = some ps) : ∃ s : Sl, f (kyN c) = some (.slice s.a s.n s.c) ∧ IsSl rPl H s ps := by
  rcases h.eq c with ⟨_, h2⟩ | ⟨s, qs, h1, h2, h3⟩
  · rw [hc] at h2; cases h2
  · rw [hc] at h2
    injection h2 with h2
    subst h2
    exact ⟨s, h1, h3⟩
theorem EW.non {H : GHeap} {f : Value → Option Value} {F : Int → Option (List (Nat × Nat))} (h : EW g H f F) {c : Int} (hc : F c = none) : f (kyN c) = none := by
  rcases h.eq c with ⟨h1, _⟩ | ⟨s, qs, _, h2, _⟩
  · exact h1
  · rw [hc] at h2; cases h2
theorem EW.put {H : GHeap} {f : Value → Option Value} {F : Int → Option (List (Nat × Nat))} (h : EW g H f F) {n : Int} (hn : F n = none) (hr : 0 ≤ n ∧ n < nN g) {s : Sl} {ps : List (Nat × Nat)} (hs : IsSl rPl H s ps) (hl : ps.length ≤ cntM f (nN g).toNat) (hN : 0 ≤ nN g) :
    EW g H (fput f (kyN n) (.slice s.a s.n s.c)) (putW F n ps) := by
  have hc := cntM_put (v := .slice s.a s.n s.c) (h.non hn) hr.1 (nN g).toNat
  rw [if_pos (by omega)] at hc
  refine ⟨fun c => ?_, fun c qs hq => ?_⟩
  · by_cases e : c = n
    · subst e
      exact .inr ⟨s, ps, fput_self, putW_self, hs⟩
    · rw [fput_ne (fun h => e (kyN_inj h)), putW_ne e]
      exact h.eq c
  · rw [hc]
    by_cases e : c = n
    · subst e
      rw [putW_self] at hq
      injection hq with hq
      subst hq
      omega
    · rw [putW_ne e] at hq
      have := h.len c qs hq
      omega

structure WS (Lb L : GHeap) (g : Gram) (r : Nat) (f : Value → Option Value) (F : Int → Option (List (Nat × Nat))) (sq : Sl) (q : List Int) : Prop where
  mm : MM pkT Lb L r f
  ew : EW g L.nob f F
  ow : Own Lb rI L sq q
theorem WS.up {Lb L L' : GHeap} {r : Nat} {f : Value → Option Value} {F : Int → Option (List (Nat × Nat))} {sq : Sl} {q : List Int} (h : WS Lb L g r f F sq q) (hl : Le L L') : WS Lb L' g r f F sq q :=
  ⟨h.mm.up hl, h.ew.mono hl.nob.toLeM, h.ow.mono hl⟩

def WyPost (g : Gram) (x : Tree) (n : Nat) (L : GHeap) (v : Value) (L' : GHeap) : Prop :=
  Le L L' ∧ ∃ (sw : Sl) (w : List (Nat × Nat)), v = .tuple #[.slice sw.a sw.n sw.c, .bool true] ∧ IsSl rPl L' sw w ∧ WayF g x x.rule w ∧ w.length ≤ n ∧ w.length ≤ 100
def WyAny (g : Gram) (x : Tree) (L : GHeap) (v : Value) (L' : GHeap) : Prop :=
  Le L L' ∧ ((∃ (sw : Sl) (w : List (Nat × Nat)), v = .tuple #[.slice sw.a sw.n sw.c, .bool true] ∧ IsSl rPl L' sw w ∧ WayF g x x.rule w ∧ (∀ n, Ch g x x.rule n → w.length ≤ n) ∧ w.length ≤ 100) ∨ (v = .tuple #[.slice none 0 0, .bool false] ∧ ∀ n, ¬ Ch g x x.rule n))

theorem way_any (hv : Valid g) {L : GHeap} (hq : PQ L b g sg sr srl sn nl) {x : Tree} {sx : Sl} (hx : IsSl rTree L sx x.kids) (hk : x.kids.length = 2 ∨ (x.kids = [] ∧ 0 ≤ x.term ∧ x.term < g.terms)) (hm : 0 ≤ x.rule ∧ x.rule < nN g):
    ACalls PP normal_parts_way.id [.pointer (some ⟨b, 0, none⟩), treeV x sx] L (WyAny g x L) := by
  have hN := nN_le hv
  have hNn : (((nN g).toNat : Nat) : Int) = nN g := by omega
  have hok := rulesG_ok hv
  have hgl := rulesG_len g
  have hmany := hv.many
  have hkey : ∀ m : Int, 0 ≤ m → m < nN g → ∃ l, keyOf PP pkT (kyN m) = some l := fun m h0 h1 => kyN_key (by kernel_rfl) ⟨h0, by omega⟩
  have hsrl := hq.rules.n
  generalize hK : WyAny g x L = K
  apply normal_parts_way.go
  intro r hr hr0
  have hM0 := MM.new (k := pkT) hr hr0
  obtain ⟨o0, ho1, ho2⟩ := hM0.ob
  refine upd_of mapT_map_int_Lnormal_place.ty (hkey x.rule hm.1 hm.2) hM0.n0 ho1 ho2 fun o' ho' => ?_
  have hM1 := hM0.upd ho'
  intro b24 hb24
  have l24 := Le.alloc hb24 [.int .i64 x.rule] 1
  have hM2 := hM1.up l24
  simp only [inL]
  have outer : ∀ U, U ≤ 1000 → ∀ (L1 : GHeap) (f : Value → Option Value) (F : Int → Option (List (Nat × Nat))) (sq : Sl) (q : List Int), WS L L1 g r f F sq q → BI g x x.rule F q (fun _ => False) → (q.Pairwise fun a b => dl F a ≤ dl F b) → (∀ c ps, F c = some ps → ∀ c' ∈ q, ps.length ≤ dl F c' + 1) →
      2 * ((nN g).toNat - cntM f (nN g).toNat) + q.length ≤ U → normal_parts_way.c3 K (some ⟨b, 0, none⟩) (some r) sq x.rule x.term sx L1 := by
    intro U
    induction U with
    | zero =>
      intro _ L1 f F sq q hS hB _ _ hU
      have : q = [] := List.eq_nil_of_length_eq_zero (by omega)
      subst this
      apply normal_parts_way.go3
      refine bcD (fun h => absurd h (by rw [hS.ow.sl.n]; decide)) fun _ => ?_
      rw [← hK]
      exact ⟨hS.mm.le, .inr ⟨rfl, fun n hn => hB.none hn [] hB.st⟩⟩
    | succ U ihU =>
    intro hU0 L1 f F sq q hS hB hinc hdist hU
    replace ihU := ihU (by omega)
    cases q with
    | nil =>
      apply normal_parts_way.go3
      refine bcD (fun h => absurd h (by rw [hS.ow.sl.n]; decide)) fun _ => ?_
      rw [← hK]
      exact ⟨hS.mm.le, .inr ⟨rfl, fun n hn => hB.none hn [] hB.st⟩⟩
    | cons c0 q =>
    obtain ⟨p0, hP0⟩ := hB.pop hinc hdist
    have hc0 := (hP0.bi.wy c0 p0 hP0.cur).2
    have hsq := hS.ow.sl
    apply normal_parts_way.go3
    refine bcD (fun _ => ?_) fun h => absurd (by rw [hsq.n]; simp) h
    refine hsq.get (i := 0) (x := c0) rfl fun a1 cs1 hK1 hc1 => ?_
    obtain rfl := hK1
    have r1 := hc1.1
    rw [add_zero] at r1
    refine ⟨_, r1, ⟨by omega, by rw [hsq.n]; simp only [List.length_cons]; omega⟩, srl, (hq.up hS.mm.le.toLeM).mem 7 _ rfl, ?_⟩
    have hd := Own.drop hS.ow (l := 1) (by simp)
    have hS1 : WS L L1 g r f F ⟨subA sq.a sq.c 1 1, sq.n - 1, sq.c - 1⟩ q := ⟨hS.mm, hS.ew, hd⟩
    generalize (⟨subA sq.a sq.c 1 1, sq.n - 1, sq.c - 1⟩ : Sl) = sq1 at hS1 ⊢
    have hU1 : 2 * ((nN g).toNat - cntM f (nN g).toNat) + q.length ≤ U := by simp at hU; omega
    have rls : ∀ i, i ≤ (rulesG g).length → ∀ (L2 : GHeap) (f : Value → Option Value) (F : Int → Option (List (Nat × Nat))) (sq : Sl) (q : List Int), WS L L2 g r f F sq q → PI g x x.rule F q c0 p0 ((rulesG g).take i).flatten → 2 * ((nN g).toNat - cntM f (nN g).toNat) + q.length ≤ U →
        normal_parts_way.c7 K (some ⟨b, 0, none⟩) (some r) sq c0 srl ((srl.n : Nat) : Int) ((i : Nat) : Int) x.rule x.term sx L2 := by
      refine down ?_ ?_
      · intro L2 f F sq q hS hP hU
        rw [List.take_length] at hP
        apply normal_parts_way.go7
        refine bcD (fun h => absurd h (by rw [hsrl]; omega)) fun _ => ?_
        obtain ⟨d1, d2, d3⟩ := hP.done
        exact ihU L2 f F sq q hS d1 d2 d3 hU
      · intro i hi ih L2 f F sq q hS hP hU
        have hgi := List.getElem?_eq_getElem hi
        have hl3 := hok _ (List.getElem_mem hi)
        have hpl : ∀ k y, (rulesG g)[i][k]? = some y → PB g i k y := fun k y hy => ⟨_, hgi, hy⟩
        rw [List.take_succ_eq_append_getElem hi, List.flatten_append] at ih
        simp only [List.flatten_cons, List.flatten_nil, List.append_nil] at ih
        generalize (rulesG g)[i] = l at *
        apply normal_parts_way.go7
        refine bcD (fun _ => ?_) fun h => absurd (by rw [hsrl]; omega) h
        refine getUp hq.rules hS.mm.le.toLeM hgi fun a cs hK1 hc => ?_
        obtain ⟨sl, rfl, hsl⟩ := hK1
        have r0 := hc.1
        rw [add_zero] at r0
        refine ⟨sl, r0, ?_⟩
        have hsln := hsl.n
        have bss : ∀ k, k ≤ l.length → ∀ (L3 : GHeap) (f : Value → Option Value) (F : Int → Option (List (Nat × Nat))) (sq : Sl) (q : List Int), WS L L3 g r f F sq q → PI g x x.rule F q c0 p0 (((rulesG g).take i).flatten ++ l.take k) → 2 * ((nN g).toNat - cntM f (nN g).toNat) + q.length ≤ U →
            normal_parts_way.c10 K (some ⟨b, 0, none⟩) (some r) sq c0 ((i : Nat) : Int) srl ((srl.n : Nat) : Int) ((i : Nat) : Int) sl ((sl.n : Nat) : Int) ((k : Nat) : Int) x.rule x.term sx L3 := by
          refine down ?_ ?_
          · intro L3 f F sq q hS3 hP3 hU3
            rw [List.take_length] at hP3
            apply normal_parts_way.go10
            refine bcD (fun h => absurd h (by rw [hsln]; omega)) fun _ => ?_
            rw [add_one (by omega)]
            exact ih L3 f F sq q hS3 hP3 hU3
          · intro k hk' ihk L3 f F sq q hS3 hP3 hU3
            have hyk := List.getElem?_eq_getElem hk'
            have hy := hl3.2 _ (List.getElem_mem hk')
            have hpb := hpl k _ hyk
            rw [List.take_succ_eq_append_getElem hk', ← List.append_assoc] at ihk
            generalize l[k] = y at *
            obtain ⟨hy1, hy2, hy3⟩ := hy
            rw [hNn] at hy1 hy3
            have nxt : ∀ (L4 : GHeap) (f : Value → Option Value) (F : Int → Option (List (Nat × Nat))) (sq : Sl) (q : List Int), WS L L4 g r f F sq q → PI g x x.rule F q c0 p0 (((rulesG g).take i).flatten ++ l.take k ++ [y]) → 2 * ((nN g).toNat - cntM f (nN g).toNat) + q.length ≤ U →
                normal_parts_way.c24 K (some ⟨b, 0, none⟩) (some r) sq c0 ((i : Nat) : Int) srl ((srl.n : Nat) : Int) ((i : Nat) : Int) sl ((sl.n : Nat) : Int) ((k : Nat) : Int) x.rule x.term sx L4 := by
              intro L4 f F sq q h1 h2 h3
              apply normal_parts_way.go24
              unfold normal_parts_way.t24
              rw [add_one (by omega)]
              exact ihk L4 f F sq q h1 h2 h3
            apply normal_parts_way.go10
            refine bcD (fun _ => ?_) fun h => absurd (by rw [hsln]; omega) h
            refine getUp hsl hS3.mm.le.toLeM hyk fun a2 cs2 hK2 hc2 => ?_
            obtain ⟨sy, rfl, hsy⟩ := hK2
            refine ⟨_, sy, hc2, bcNE (fun hne => ?_) fun he => ?_⟩
            · exact nxt L3 f F sq q hS3 (hP3.more fun e => absurd e hne) hU3
            obtain ⟨sp, hfp, hsp⟩ := hS3.ew.get hP3.cur
            have hpl0 := hS3.ew.len c0 p0 hP3.cur
            have hcle := cntM_le (f := f) (n := (nN g).toNat)
            refine ⟨sp, true, look_of mapT_map_int_Lnormal_place.ty (hkey c0 hc0.1 hc0.2) hS3.mm.map (by rw [hfp]; rfl) (by rw [hfp]; rfl), ?_⟩
            refine (CloneP_spec (hsp.mono nob_le) (by omega)).mono ?_
            rintro v L4 ⟨s4, rfl, hle4, ho4⟩
            refine ⟨s4, rfl, ?_⟩
            refine Own.append (R := rPl) (bytes := 16) (m := 1) (ys := [(i, k)]) (cs := [.int .i64 (i : Int), .int .i64 (k : Int)]) ho4 hle4 (Cells.cons (c := [.int .i64 (i : Int), .int .i64 (k : Int)]) (x := (i, k)) rfl .nil) rfl (.inl (by omega)) fun sh L5 hle5 _ ho5 _ _ => ?_
            have hS5 := hS3.up hle5
            have hsh := nobPl ho5.sl
            have hq5 := hq.up hS5.mm.le.toLeM
            refine (fits_spec hv hq5 (hx.mono hS5.mm.le.toLeM) (hsy.mono hS5.mm.le.toLeM) hy2 hy3 hk).mono ?_
            rintro v L6 ⟨rfl, w, rfl, hw⟩
            refine ⟨w, rfl, bcI (fun hwt => ?_) fun hwf => ?_⟩
            · obtain ⟨e1, e2⟩ := hP3.fitA hpb he (hw.1 hwt)
              rw [← hK]
              refine ⟨hS5.mm.le, .inl ⟨sh, p0 ++ [(i, k)], rfl, ho5.sl, e1, e2, ?_⟩⟩
              rw [List.length_append]
              simp only [List.length_cons, List.length_nil]
              omega
            have hnf : ¬ fitsB g y x := fun h => by rw [hw.2 h] at hwf; cases hwf
            have hsyn := hsy.n
            have sym : ∀ j, j ≤ y.2.length → ∀ (L7 : GHeap) (f : Value → Option Value) (F : Int → Option (List (Nat × Nat))) (sq : Sl) (q : List Int), LeM L6.nob L7.nob → WS L L7 g r f F sq q → PI g x x.rule F q c0 p0 (((rulesG g).take i).flatten ++ l.take k) → (∀ j', j' < j → ∀ m, ldAt g y j' m → ∃ qs, F m = some qs ∧ qs.length ≤ p0.length + 1) → 2 * ((nN g).toNat - cntM f (nN g).toNat) + q.length ≤ U →
                normal_parts_way.c17 K (some ⟨b, 0, none⟩) (some r) sq c0 ((i : Nat) : Int) sh srl ((srl.n : Nat) : Int) ((i : Nat) : Int) sl ((sl.n : Nat) : Int) ((k : Nat) : Int) sy ((sy.n : Nat) : Int) ((j : Nat) : Int) x.rule x.term sx y.1 sy L7 := by
              refine down ?_ ?_
              · intro L7 f F sq q hle7 hS7 hP7 hall hU7
                apply normal_parts_way.go17
                refine bcD (fun h => absurd h (by rw [hsyn]; omega)) fun _ => ?_
                refine nxt L7 f F sq q hS7 (hP7.more fun _ => ⟨hnf, fun m hm => ?_⟩) hU7
                obtain ⟨j, hj, hl⟩ := (leads_at hy2).1 hm
                exact hall j hj m hl
              · intro j hj ihj L7 f F sq q hle7 hS7 hP7 hall hU7
                have hmj := List.getElem?_eq_getElem hj
                have hmr := hy3 _ (List.getElem_mem hj)
                have hq7 := hq.up hS7.mm.le.toLeM
                have hsy7 := hsy.mono hS7.mm.le.toLeM
                -- the next symbol
                have n23 : ∀ (L8 : GHeap) (f : Value → Option Value) (F : Int → Option (List (Nat × Nat))) (sq : Sl) (q : List Int), LeM L6.nob L8.nob → WS L L8 g r f F sq q → PI g x x.rule F q c0 p0 (((rulesG g).take i).flatten ++ l.take k) → (∀ j', j' < j → ∀ m, ldAt g y j' m → ∃ qs, F m = some qs ∧ qs.length ≤ p0.length + 1) → (∀ m, ldAt g y j m → ∃ qs, F m = some qs ∧ qs.length ≤ p0.length + 1) → 2 * ((nN g).toNat - cntM f (nN g).toNat) + q.length ≤ U →
                    normal_parts_way.c23 K (some ⟨b, 0, none⟩) (some r) sq c0 ((i : Nat) : Int) sh srl ((srl.n : Nat) : Int) ((i : Nat) : Int) sl ((sl.n : Nat) : Int) ((k : Nat) : Int) sy ((sy.n : Nat) : Int) ((j : Nat) : Int) x.rule x.term sx y.1 sy L8 := by
                  intro L8 f F sq q h1 h2 h3 h4 h5 h6
                  apply normal_parts_way.go23
                  unfold normal_parts_way.t23
                  rw [add_one (by omega)]
                  refine ihj L8 f F sq q h1 h2 h3 (fun j' hj' => ?_) h6
                  by_cases e : j' = j
                  · rw [e]; exact h5
                  · exact h4 j' (by omega)
                apply normal_parts_way.go17
                refine bcD (fun _ => ?_) fun h => absurd (by rw [hsyn]; omega) h
                refine hsy7.get hmj fun a3 cs3 hK3 hc3 => ?_
                obtain rfl := hK3
                have r3 := hc3.1
                rw [add_zero] at r3
                refine ⟨_, r3, ?_⟩
                generalize hmm : y.2[j] = m at *
                cases hF : F m with
                | some qs =>
                  obtain ⟨sm, hfm, hsm⟩ := hS7.ew.get hF
                  refine ⟨sm, true, look_of mapT_map_int_Lnormal_place.ty (hkey m hmr.1 hmr.2) hS7.mm.map (by rw [hfm]; rfl) (by rw [hfm]; rfl), bcF rfl ?_⟩
                  refine n23 L7 f F sq q hle7 hS7 hP7 hall (fun m' hm' => ?_) hU7
                  have := hm'.1
                  rw [hmj] at this
                  injection this with this
                  subst this
                  exact ⟨qs, hF, hP7.all _ qs hF⟩
                | none =>
                  have hfm := hS7.ew.non hF
                  refine ⟨⟨none, 0, 0⟩, false, look_of mapT_map_int_Lnormal_place.ty (hkey m hmr.1 hmr.2) hS7.mm.map (by rw [hfm]; rfl) (by rw [hfm]; rfl), bcT rfl ?_⟩
                  have hcm := cntM_le (f := f) (n := (nN g).toNat)
                  have c21 : ldAt g y j m → normal_parts_way.c21 K (some ⟨b, 0, none⟩) (some r) sq c0 ((i : Nat) : Int) sh m srl ((srl.n : Nat) : Int) ((i : Nat) : Int) sl ((sl.n : Nat) : Int) ((k : Nat) : Int) sy ((sy.n : Nat) : Int) ((j : Nat) : Int) x.rule x.term sx y.1 sy L7 := by
                    intro hld
                    apply normal_parts_way.go21
                    obtain ⟨o, ho1, ho2⟩ := hS7.mm.ob
                    refine upd_of mapT_map_int_Lnormal_place.ty (hkey m hmr.1 hmr.2) hS7.mm.n0 ho1 ho2 fun o' ho' => ?_
                    have hM8 := hS7.mm.upd ho'
                    apply normal_parts_way.go22
                    have hpc := hS7.ew.len c0 p0 hP7.cur
                    have hql : q.length ≤ 1000 := by omega
                    have hW8 := hS7.ew.put hF hmr (hsh.mono hle7) (by simp; omega) (by omega)
                    have hcp := cntM_put (v := .slice sh.a sh.n sh.c) hfm hmr.1 (nN g).toNat
                    rw [if_pos (by omega)] at hcp
                    have hn8 : IsSl rI (L7.setObj r o').nob sq q := by have h := nobI (k := .i64) hS7.ow.sl; exact h
                    have how8 : Own L rI (L7.setObj r o') sq q := own_setObj (hn8.mono nob_le) hS7.ow
                    refine Own.append (R := rI) (bytes := 8) (m := 1) (ys := [m]) (cs := [.int .i64 m]) how8 hM8.le (Cells.cons (c := [.int .i64 m]) (x := m) rfl .nil) rfl (.inl (by omega)) fun s9 L9 g1 g2 g3 _ _ => ?_
                    have g2n : LeM L7.nob L9.nob := by have := LeM.nobM g2; exact this
                    have hP9 := hP7.push hF hpb he ((leads_at hy2).2 ⟨j, hj, hld⟩) hmr
                    refine n23 L9 _ _ s9 _ (hle7.trans g2n) ⟨hM8.upM g1 g2, hW8.mono g2n, g3⟩ hP9 (fun j' hj' m' hm' => ?_) (fun m' hm' => ?_) ?_
                    · obtain ⟨qs, a, b⟩ := hall j' hj' m' hm'
                      exact ⟨qs, by rw [putW_ne (fun e => by rw [e, hF] at a; cases a)]; exact a, b⟩
                    · have := hm'.1
                      rw [hmj] at this
                      injection this with this
                      subst this
                      exact ⟨_, putW_self, by simp⟩
                    · rw [List.length_append]
                      simp only [List.length_cons, List.length_nil]
                      show 2 * ((nN g).toNat - cntM (fput f (kyN m) (.slice sh.a sh.n sh.c)) (nN g).toNat) + (q.length + 1) ≤ U
                      have hc9 := cntM_le (f := fput f (kyN m) (.slice sh.a sh.n sh.c)) (n := (nN g).toNat)
                      rw [hcp] at hc9 ⊢
                      omega
                  refine bcE (fun h1 => c21 ⟨hmj, .inl (by rw [hsyn] at h1; omega)⟩) fun h1 => ?_
                  have h2 : y.2.length = 2 := by rw [hsyn] at h1; omega
                  have hoj : 1 - j < y.2.length := by omega
                  have hw1 : w64 (1 - (j : Int)) = ((1 - j : Nat) : Int) := by rw [w64_in (by omega) (by omega)]; omega
                  have hyo := List.getElem?_eq_getElem hoj
                  have hor := hy3 _ (List.getElem_mem hoj)
                  obtain ⟨w, hnw, hnd⟩ := null_at hq7 hor (by omega)
                  refine ⟨sn, hq7.mem 8 _ rfl, ?_⟩
                  rw [hw1]
                  refine hsy7.get hyo fun a4 cs4 hK4 hc4 => ?_
                  obtain rfl := hK4
                  have r4 := hc4.1
                  rw [add_zero] at r4
                  refine ⟨_, r4, hq7.nulls.getI hor.1 hnw fun a5 cs5 hK5 hc5 => ?_⟩
                  obtain rfl := hK5
                  have r5 := hc5.1
                  rw [add_zero] at r5
                  refine ⟨_, r5, bcI (fun hwt => c21 ⟨hmj, .inr ⟨_, hyo, hnd.1 hwt⟩⟩) fun hwf => ?_⟩
                  refine n23 L7 f F sq q hle7 hS7 hP7 hall (fun m' hm' => ?_) hU7
                  exfalso
                  rcases hm'.2 with h | ⟨o, h, hd⟩
                  · omega
                  · rw [hyo] at h
                    injection h with h
                    rw [← h] at hd
                    rw [hnd.2 hd] at hwf; cases hwf
            exact sym 0 (Nat.zero_le _) L6 f F sq q (.refl _) hS5 hP3 (fun j' hj' => by omega) hU3
        exact bss 0 (Nat.zero_le _) L2 f F sq q hS (by simpa using hP) hU
    exact rls 0 (Nat.zero_le _) L1 f F sq1 q hS1 hP0 hU1
  -- the beginning
  have hc1 := cntM_put (f := fun _ => none) (v := .slice none 0 0) (m := x.rule) rfl hm.1 (nN g).toNat
  rw [if_pos (by omega)] at hc1
  refine outer (2 * (nN g).toNat + 1) (by omega) _ _ (putW (fun _ => none) x.rule []) ⟨some ⟨b24, 0, none⟩, 1, 1⟩ [x.rule] ⟨hM2, ⟨fun c => ?_, fun c ps hc => ?_⟩, ?_⟩ ⟨putW_self, fun c ps hc => ?_, fun c hc => ?_, fun c ps hc hn => ?_⟩ (by simp) (fun c ps hc c' hc' => ?_) (by simp; omega)
  · by_cases e : c = x.rule
    · subst e
      exact .inr ⟨⟨none, 0, 0⟩, [], fput_self, putW_self, .nil _ _ _ _⟩
    · exact .inl ⟨by rw [fput_ne (fun h => e (kyN_inj h))], by rw [putW_ne e]⟩
  · rw [hc1]
    by_cases e : c = x.rule
    · subst e
      rw [putW_self] at hc
      injection hc with hc
      subst hc
      simp
    · rw [putW_ne e] at hc; cases hc
  · exact (own_one hb24 x.rule).back hM1.le.toLeM
  · by_cases e : c = x.rule
    · subst e
      rw [putW_self] at hc
      injection hc with hc
      subst hc
      exact ⟨.nil, hm⟩
    · rw [putW_ne e] at hc; cases hc
  · rw [List.mem_singleton.1 hc]; exact ⟨[], putW_self⟩
  · by_cases e : c = x.rule
    · subst e; exact absurd (List.mem_singleton.2 rfl) hn
    · rw [putW_ne e] at hc; cases hc
  · by_cases e : c = x.rule
    · subst e
      rw [putW_self] at hc
      injection hc with hc
      subst hc
      simp
    · rw [putW_ne e] at hc; cases hc

theorem way_spec (hv : Valid g) {L : GHeap} (hq : PQ L b g sg sr srl sn nl) {x : Tree} {sx : Sl} (hx : IsSl rTree L sx x.kids) (hk : x.kids.length = 2 ∨ (x.kids = [] ∧ 0 ≤ x.term ∧ x.term < g.terms)) (hm : 0 ≤ x.rule ∧ x.rule < nN g) {n : Nat} (hch : Ch g x x.rule n) :
    ACalls PP normal_parts_way.id [.pointer (some ⟨b, 0, none⟩), treeV x sx] L (WyPost g x n L) := by
  refine (way_any hv hq hx hk hm).mono ?_
  rintro v L' ⟨hle, ⟨sw, w, h1, h2, h3, h4, h5⟩ | ⟨_, h⟩⟩
  · exact ⟨hle, sw, w, h1, h2, h3, h4 n hch, h5⟩
  · exact absurd hch (h n)
end Go.Proofs.YtcnkbjipogngaaaDoor.NormT

