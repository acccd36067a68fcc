/- Contracts of the program's functions. -/
import Derived.Test.YtcnkbjipogngaaaDoorCAll22
import Derived.Test.YtcnkbjipogngaaaDoorCAll23
import Derived.Test.YtcnkbjipogngaaaDoorCAll2
set_option linter.all false
namespace Go.Proofs.YtcnkbjipogngaaaDoor.NormT
open Go Go.Proofs.YtcnkbjipogngaaaDoor.GH

variable {g : Gram} {R : Nat}

theorem count_ro : ∀ (x : Tree) {L : GHeap} {s : Sl}, IsSl rTree L s x.kids → x.nodes ≤ 1048576 → RO PP normal_count.id [treeV x s] L (.int .i64 (x.nodes : Int)) := by
  refine Tree.ind fun r t ks ih => ?_
  intro L s hs hn
  have hs : IsSl rTree L s ks := hs
  simp only [Tree.nodes] at hn ⊢
  apply normal_count.go
  have key : ∀ i, i ≤ ks.length → normal_count.c3 (fun v L' => v = .int .i64 ((nodesL ks + 1 : Nat) : Int) ∧ L' = L) ((nodesL (ks.take i) + 1 : Nat) : Int) s ((s.n : Nat) : Int) ((i : Nat) : Int) L := by
    refine down ?_ ?_
    · apply normal_count.go3
      rw [List.take_length]
      exact bcD (fun h => absurd h (by rw [hs.n]; omega)) fun _ => ⟨rfl, rfl⟩
    · intro i hi ihi
      rw [List.take_succ_eq_append_getElem hi, nodesL_append] at ihi
      have hk := nodes_mem (List.getElem_mem hi)
      have h3 : nodesL (ks.take i) + nodesL (ks.drop i) = nodesL ks := by rw [← nodesL_append, List.take_append_drop]
      have h4 : nodesL (ks.drop i) = ks[i].nodes + nodesL (ks.drop (i + 1)) := by rw [List.drop_eq_getElem_cons hi]; simp only [nodesL]
      apply normal_count.go3
      refine bcD (fun _ => ?_) fun h => absurd (by rw [hs.n]; omega) h
      refine hs.get (List.getElem?_eq_getElem hi) fun a cs hK hc => ?_
      obtain ⟨sk, rfl, hsk⟩ := TK.open hK
      refine ⟨_, _, sk, hc, (ih _ (List.getElem_mem hi) hsk (by omega)).use ⟨_, rfl, ?_⟩⟩
      have hkl := kids_le ks
      rw [add_one (by omega), w64_in (by omega) (by omega)]
      have e : (((nodesL (ks.take i) + 1 : Nat) : Int) + (ks[i].nodes : Int)) = ((nodesL (ks.take i) + nodesL [ks[i]] + 1 : Nat) : Int) := by simp only [nodesL]; omega
      rw [e]
      exact ihi
  have h0 := key 0 (Nat.zero_le _)
  have e : ((nodesL (ks.take 0) + 1 : Nat) : Int) = 1 := by simp [nodesL]
  rw [e] at h0
  exact h0

mutual
theorem ends_le : ∀ x : Tree, (endsN x).length ≤ x.nodes
  | .mk r t ks => by
    simp only [endsN, Tree.nodes]
    split
    · simp
    · have := endsL_le ks; omega
theorem endsL_le : ∀ ks : List Tree, (endsL ks).length ≤ nodesL ks
  | [] => by simp [endsL, nodesL]
  | k :: ks => by
    have := ends_le k
    have := endsL_le ks
    simp only [endsL, nodesL, List.length_append]; omega
end
theorem Up_spec (hv : Valid g) (hR : ∀ r ∈ g.rules, r.right.length ≤ R) (h2 : 2 ≤ R) (h4 : R ≤ 4) {L : GHeap} {sg sx : Sl} (hg : IsSl rRule L sg g.rules) {x : Tree} (hx : IsSl rTree L sx x.kids) {c : Nat} (hc : Co g x c) (hr : 0 ≤ x.rule ∧ x.rule < g.nons) (hn : x.nodes ≤ 5000) (hsz : (EB g R + 1) * c + (endsN x).length ≤ 5000) :
    ACalls PP normal_Up.id [gramV g sg, treeV x sx] L fun v L' => Le L L' ∧ ∃ (y : Tree) (sy : Sl), v = .tuple #[treeV y sy, .int .i64 0] ∧ IsSl rTree L' sy y.kids ∧ WT g ⟨false, x.rule⟩ y ∧ dn g y = some x ∧ y.nodes ≤ 5000 := by
  apply normal_Up.go
  refine (Check_ro hg).use ⟨_, rfl, bcNE (fun h => absurd (chk_zero.2 hv) h) fun _ => bcD (fun h => absurd h (by omega)) fun _ => bcD (fun h => absurd h (show ¬ x.rule ≥ g.nons by omega)) fun _ => ?_⟩
  refine (count_ro x hx (by omega)).use ⟨_, rfl, bcD (fun h => absurd h (by omega)) fun _ => (divide_spec hv hg).mono ?_⟩
  rintro v L1 ⟨hle1, b, sr, srl, sn, nl, rfl, hq⟩
  refine ⟨_, rfl, (up_spec hv hR h2 h4 (E := EB g R) (fun _ _ _ _ h => h) hc ⟨hq, hg.mono hle1.toLeM⟩ (hx.mono hle1.toLeM)).mono ?_⟩
  rintro v L2 ⟨hle2, so, ts, rfl, hso, hd, hnd⟩
  obtain ⟨y, rfl, hw, hdn⟩ := (dv_mean hv hd).non hr.2
  have hyn : y.nodes ≤ 5000 := by
    have : nodesL [y] = y.nodes := by simp [nodesL]
    omega
  have hl := hle1.trans hle2
  refine ⟨so, true, rfl, bcF rfl ?_⟩
  refine hso.get (i := 0) (x := y) rfl fun a1 cs1 hK1 hc1 => ?_
  obtain ⟨s1, rfl, hs1⟩ := TK.open hK1
  refine ⟨_, _, s1, hc1, (Tree_spec (hg.mono hl.toLeM) hs1).mono ?_⟩
  rintro v L3 ⟨rfl, hle3⟩
  have h0 : treeE g y = 0 := by
    have := (chkT_ok hv y ⟨false, x.rule⟩ 0 hw ⟨hr.1, (fun h => by cases h), fun _ => hr.2⟩ (by omega)).1
    unfold treeE; rw [this]
  refine ⟨_, rfl, bcNE (fun h => absurd h0 h) fun _ => ?_⟩
  refine (hso.mono hle3.toLeM).get (i := 0) (x := y) rfl fun a2 cs2 hK2 hc2 => ?_
  obtain ⟨s2, rfl, hs2⟩ := TK.open hK2
  exact ⟨_, _, s2, hc2, hl.trans hle3, y, s2, rfl, hs2, hw, hdn, hyn⟩
end Go.Proofs.YtcnkbjipogngaaaDoor.NormT

namespace Go.Proofs.YtcnkbjipogngaaaDoor.NormT
open Go Go.Proofs.YtcnkbjipogngaaaDoor.GH

variable {g : Gram} {b : Nat} {sg sr srl sn : Sl} {nl : List Bool} {R E : Nat}

theorem rootS_wt {t : Tree} {y : Sym} (h : WT g y t) : rootS g t = y := by
  obtain ⟨r, a, ks⟩ := t
  obtain ⟨yb, yn⟩ := y
  simp only [WT] at h
  rcases h with ⟨h1, h2, h3, _⟩ | ⟨h1, _, h2, rl, h3, h4, _⟩
  · have h1 : yb = true := h1
    have h3 : a = yn := h3
    subst h1 h2 h3
    unfold rootS
    exact if_pos (.inl (by show (-1 : Int) < 0; decide))
  · have h1 : yb = false := h1
    have h4 : rl.left = yn := h4
    subst h1 h4
    have hl := (List.getElem?_eq_some_iff.1 h3).1
    unfold rootS
    rw [if_neg (by show ¬ (r < 0 ∨ r ≥ g.rules.length); omega)]
    show (⟨false, (g.rules.getD r.toNat ⟨0, []⟩).left⟩ : Sym) = _
    rw [List.getD_eq_getElem?_getD, h3]; rfl

mutual
theorem chkT_two (hv : Valid g) : ∀ (t : Tree) (y : Sym) (n : Int), WT g y t → SymOk g.terms g.nons y → (chkT g t n).1 = 0 ∨ (chkT g t n).1 = 2
  | .mk r t ks, y, n, h, hy => by
    by_cases hn : n + 1 > 5000
    · simp only [chkT]; rw [if_pos hn]; exact .inr rfl
    simp only [WT] at h
    rcases h with ⟨h1, h2, h3, h4⟩ | ⟨h1, ht0, h2, rl, h3, h4, h5⟩
    · subst h2 h3 h4
      have := hy.1
      have := hy.2.1 h1
      simp only [chkT]
      rw [if_neg hn, if_pos trivial, if_neg (by omega), if_neg (by omega), if_neg (by simp)]
      exact .inl rfl
    · have hl := (List.getElem?_eq_some_iff.1 h3).1
      have hg := (List.getElem?_eq_some_iff.1 h3).2
      have er : rt g r = rl.right := by unfold rt; rw [List.getD_eq_getElem?_getD, h3]; rfl
      have hok := (hv.ok rl (by rw [← hg]; exact List.getElem_mem hl)).1
      rw [chkT_shp (by omega) (.inr ⟨h2, by show r < g.rules.length; omega, ht0, by show ks.length = (rt g r).length; rw [er]; exact h5.length.symm⟩), er]
      exact chkTs_two hv ks rl.right (n + 1) h5 hok.right
theorem chkTs_two (hv : Valid g) : ∀ (ks : List Tree) (ys : List Sym) (n : Int), WTs g ys ks → (∀ y ∈ ys, SymOk g.terms g.nons y) → (chkTs g ks ys n).1 = 0 ∨ (chkTs g ks ys n).1 = 2
  | [], _, n, _, _ => .inl (by rw [chkTs_nil])
  | k :: ks, y :: ys, n, h, hy => by
    simp only [WTs] at h
    simp only [chkTs]
    rcases chkT_two hv k y n h.1 (hy y (List.mem_cons_self ..)) with e | e
    · rw [if_neg (fun h => h e), if_neg (fun e => e (rootS_wt h.1))]
      exact chkTs_two hv ks ys _ h.2 fun z hz => hy z (List.mem_cons_of_mem _ hz)
    · rw [if_pos (by rw [e]; decide)]; exact .inr e
  | _ :: _, [], _, h, _ => by simp [WTs] at h
end

theorem wayF_ch {x : Tree} {m : Int} {w : List (Nat × Nat)} (h : WayF g x m w) : Ch g x m w.length := by
  induction h with
  | last hp hf => exact .last hp hf
  | step hp hl _ ih => exact .step hp hl ih

theorem up_no (hv : Valid g) (hR : ∀ r ∈ g.rules, r.right.length ≤ R) (h2 : 2 ≤ R) (h4 : R ≤ 4) : ∀ (x : Tree), 0 ≤ x.rule → (∀ c, ¬ Co g x c) → ∀ {L : GHeap} {sx : Sl}, PQ L b g sg sr srl sn nl → IsSl rTree L sx x.kids →
    ACalls PP normal_parts_up.id [.pointer (some ⟨b, 0, none⟩), treeV x sx] L fun v L' => Le L L' ∧ v = .tuple #[.slice none 0 0, .bool false] := by
  have hN := nN_le hv
  have ht := hv.terms
  have eN : nN g = nT g + g.terms := rfl
  refine Tree.ind fun m a ks ih h0 hno L sx hq hx => ?_
  have h0 : 0 ≤ m := h0
  have hx : IsSl rTree L sx ks := hx
  have hxn := hx.n
  generalize hK : (fun (v : Value) (L' : GHeap) => Le L L' ∧ v = Value.tuple #[.slice none 0 0, .bool false]) = K
  have no : ∀ L', Le L L' → K (.tuple #[.slice none 0 0, .bool false]) L' := fun L' hl => by rw [← hK]; exact ⟨hl, rfl⟩
  have c2 : normal_parts_up.c2 K L := normal_parts_up.go2 (no L (.refl L))
  have c4 : normal_parts_up.c4 K L := normal_parts_up.go4 (no L (.refl L))
  apply normal_parts_up.go
  refine ⟨_, hq.mem 6 _ rfl, bcD (fun _ => c2) fun hmN => ?_⟩
  have hmN : m < nN g := by have : ¬ m ≥ nN g := hmN; omega
  -- where the kids are two or none
  have c5 : (ks.length = 2 ∧ a = 0 ∨ (ks = [] ∧ 0 ≤ a ∧ a < g.terms)) → (∀ k ∈ ks, 0 ≤ k.rule) → normal_parts_up.c5 K (some ⟨b, 0, none⟩) m a sx L := by
    intro hk hkr
    apply normal_parts_up.go5
    refine ⟨_, hq.mem 5 _ rfl, bcD (fun hmT => ?_) fun hmT => ?_⟩
    · apply normal_parts_up.go6
      refine bcD (fun _ => normal_parts_up.go7 (no L (.refl L))) fun hn0 => ⟨_, hq.mem 5 _ rfl, bcNE (fun _ => normal_parts_up.go7 (no L (.refl L))) fun he => ?_⟩
      exfalso
      rcases hk with ⟨hk, _⟩ | ⟨rfl, h1, h2⟩
      · omega
      · have he : m = nT g + a := by
          have he : m = w64 (nT g + a) := he
          rw [w64_in (by omega) (by omega)] at he; exact he
        exact hno 0 (by rw [he]; exact .term a h1 h2)
    · apply normal_parts_up.go9
      refine (way_any hv hq (x := .mk m a ks) hx (hk.imp (fun h => h.1) fun h => h) ⟨h0, hmN⟩).mono ?_
      rintro v L1 ⟨hle1, ⟨sw, w, rfl, hsw, hw, _, hwl⟩ | ⟨rfl, hnc⟩⟩
      · have hq1 := hq.up hle1.toLeM
        have hx1 := hx.mono hle1.toLeM
        refine ⟨sw, true, rfl, ?_⟩
        apply normal_parts_up.go10
        refine bcF rfl (up_c12 hv hq1 hw hsw hwl fun y sy hp hf hsy => ?_)
        apply normal_parts_up.go14
        refine bcE (fun hn2 => ?_) fun hn2 => ?_
        · have hl2 : ks.length = 2 := by have hn2 : ((sx.n : Nat) : Int) = 2 := hn2; omega
          match ks, hl2 with
          | [l, r], _ =>
          have ha0 : a = 0 := by
            rcases hk with h | ⟨h, _⟩
            · exact h.2
            · cases h
          apply normal_parts_up.go15
          apply normal_parts_up.go16
          refine bcD (fun _ => ?_) fun h => absurd (show (0 : Int) < ((sx.n : Nat) : Int) by rw [hxn]; simp) h
          refine hx1.get (i := 0) (x := l) rfl fun a1 cs1 hK1 hc1 => ?_
          obtain ⟨s1, rfl, hs1⟩ := TK.open hK1
          refine ⟨_, _, s1, hc1, ?_⟩
          by_cases hcl : ∃ c, Co g l c
          · obtain ⟨c1, hcl⟩ := hcl
            refine (up_spec hv hR h2 h4 (E := EB g R) (fun _ _ _ _ h => h) hcl hq1 hs1).mono ?_
            rintro v L2 ⟨hle2, so1, ts1, rfl, hso1, hd1, hn1⟩
            have hl1 := dv_len hv hR h2 hd1
            refine ⟨so1, true, rfl, bcF rfl ?_⟩
            obtain ⟨cc1, hcc1, hrc1⟩ := hso1.cells
            refine ⟨cc1, ⟨hrc1, hcc1.one⟩, ?_⟩
            refine Own.append (R := rTree) (bytes := 40) (m := so1.n) (ys := ts1) (Own.nil L1 rTree L2) hle2 hcc1 hso1.n.symm (.inl (by rw [hso1.n]; simp; omega)) fun s3 L3 g1 g2 g3 _ _ => ?_
            have e1 : w64 ((0 : Int) + 1) = ((1 : Nat) : Int) := by rw [w64_in (by omega) (by omega)]; rfl
            rw [e1]
            have hq3 := hq1.up g1.toLeM
            have hx3 := hx1.mono g1.toLeM
            apply normal_parts_up.go16
            refine bcD (fun _ => ?_) fun h => absurd (show ((1 : Nat) : Int) < ((sx.n : Nat) : Int) by rw [hxn]; simp) h
            refine hx3.get (i := 1) (x := r) rfl fun a2 cs2 hK2 hc2 => ?_
            obtain ⟨s2, rfl, hs2⟩ := TK.open hK2
            refine ⟨_, _, s2, hc2, (ih r (by simp) (hkr r (by simp)) (fun c2 hcr => ?_) hq3 hs2).mono ?_⟩
            · subst ha0
              exact hno _ (.node (wayF_ch hw) hcl hcr)
            · rintro v L4 ⟨hle4, rfl⟩
              exact ⟨⟨none, 0, 0⟩, false, rfl, bcT rfl (no L4 ((hle1.trans g1).trans hle4))⟩
          · refine (ih l (by simp) (hkr l (by simp)) (fun c hc => hcl ⟨c, hc⟩) hq1 hs1).mono ?_
            rintro v L2 ⟨hle2, rfl⟩
            exact ⟨⟨none, 0, 0⟩, false, rfl, bcT rfl (no L2 (hle1.trans hle2))⟩
        · exfalso
          rcases hk with ⟨h, _⟩ | ⟨rfl, h1, h2⟩
          · exact hn2 (by show ((sx.n : Nat) : Int) = 2; omega)
          · exact hno _ (.leaf h1 h2 (wayF_ch hw))
      · refine ⟨⟨none, 0, 0⟩, false, rfl, ?_⟩
        apply normal_parts_up.go10
        exact bcT rfl (normal_parts_up.go11 (no L1 hle1))
  have c3 : (ks.length = 2 ∨ (ks = [] ∧ 0 ≤ a ∧ a < g.terms)) → normal_parts_up.c3 K (some ⟨b, 0, none⟩) m a sx L := by
    intro hk
    apply normal_parts_up.go3
    refine bcE (fun hn2 => bcNE (fun _ => c4) fun ha => ?_) fun hn2 => ?_
    · have hl2 : ks.length = 2 := by have hn2 : ((sx.n : Nat) : Int) = 2 := hn2; omega
      match ks, hl2 with
      | [l, r], _ =>
      refine hx.get (i := 0) (x := l) rfl fun a1 cs1 hK1 hc1 => ?_
      obtain ⟨s1, rfl, _⟩ := TK.open hK1
      have r1 := hc1.1
      rw [add_zero] at r1
      refine ⟨_, r1, hx.get (i := 1) (x := r) rfl fun a2 cs2 hK2 hc2 => ?_⟩
      obtain ⟨s2, rfl, _⟩ := TK.open hK2
      have r2 := hc2.1
      rw [add_zero] at r2
      refine ⟨_, r2, bcD (fun _ => c4) fun h => c5 (.inl ⟨rfl, ha⟩) fun k hk => ?_⟩
      have hmin : 0 ≤ l.rule ∧ 0 ≤ r.rule := by
        unfold mnx at h
        simp only at h
        split at h <;> omega
      rcases List.mem_cons.1 hk with rfl | hk
      · exact hmin.1
      · rw [List.mem_singleton.1 hk]; exact hmin.2
    · have hk' : ks = [] ∧ 0 ≤ a ∧ a < g.terms := by
        rcases hk with h | h
        · exact absurd (show ((sx.n : Nat) : Int) = 2 by omega) hn2
        · exact h
      exact c5 (.inr hk') fun k hk => by rw [hk'.1] at hk; cases hk
  have c3' : ks.length = 0 → bc (decide (a < 0)) (normal_parts_up.c2 K L) (ptrK (some (⟨b, 0, none⟩ : Addr)) fun x49 => ∃ x52 : Int, L.mem x49 = some (.int .i64 x52) ∧ bc (decide (a ≥ x52)) (normal_parts_up.c2 K L) (normal_parts_up.c3 K (some ⟨b, 0, none⟩) m a sx L)) := fun hk =>
    bcD (fun _ => c2) fun h1 => ⟨_, hq.mem 0 _ rfl, bcD (fun _ => c2) fun h2 => c3 (.inr ⟨List.eq_nil_of_length_eq_zero hk, by omega, by omega⟩)⟩
  refine bcNE (fun hn0 => bcNE (fun _ => c2) fun hn2 => bcE (fun h => absurd h hn0) fun _ => c3 (.inl ?_)) fun hn0 => bcE (fun _ => ?_) fun h => absurd hn0 h
  · have hn2 : ((sx.n : Nat) : Int) = 2 := hn2
    omega
  · have hn0 : ((sx.n : Nat) : Int) = 0 := hn0
    exact c3' (by omega)

inductive UpR (g : Gram) (E : Nat) (x : Tree) (v : Value) (L' : GHeap) : Prop
  | no : (x.rule < 0 ∨ x.rule ≥ g.nons ∨ 5000 < x.nodes ∨ ∀ c, ¬ Co g x c) → v = .tuple #[zT, .int .i64 3] → UpR g E x v L'
  | yes (c0 : Nat) (y : Tree) : 0 ≤ x.rule → x.rule < g.nons → x.nodes ≤ 5000 → Co g x c0 → WT g ⟨false, x.rule⟩ y → dn g y = some x → (∀ c, Co g x c → y.nodes ≤ (E + 1) * c + (endsN x).length) →
      ((treeE g y = 2 ∧ v = .tuple #[zT, .int .i64 2]) ∨ (treeE g y = 0 ∧ ∃ sy, v = .tuple #[treeV y sy, .int .i64 0] ∧ IsSl rTree L' sy y.kids)) → UpR g E x v L'

theorem least {P : Nat → Prop} : ∀ n, P n → ∃ m, P m ∧ ∀ k, P k → m ≤ k := by
  intro n
  induction n using Nat.strongRecOn with
  | ind n ih =>
    intro hn
    by_cases h : ∃ k, P k ∧ k < n
    · obtain ⟨k, h1, h2⟩ := h
      exact ih k h2 h1
    · exact ⟨n, hn, fun k hk => by
        rcases Nat.lt_or_ge k n with e | e
        · exact absurd ⟨k, hk, e⟩ h
        · exact e⟩

theorem Up_any (hv : Valid g) (hR : ∀ r ∈ g.rules, r.right.length ≤ R) (h2 : 2 ≤ R) (h4 : R ≤ 4) (hE : ∀ (b : Bs) (n : Int) (l l' : List Tree), ArOk g (EB g R) b n l l' → ArOk g E b n l l') {L : GHeap} {sg sx : Sl} (hg : IsSl rRule L sg g.rules) {x : Tree} (hx : IsSl rTree L sx x.kids) (hn : x.nodes ≤ 1048576) :
    ACalls PP normal_Up.id [gramV g sg, treeV x sx] L fun v L' => Le L L' ∧ UpR g E x v L' := by
  apply normal_Up.go
  have c4 : (x.rule < 0 ∨ x.rule ≥ g.nons ∨ 5000 < x.nodes ∨ ∀ c, ¬ Co g x c) → normal_Up.c5 (fun v L' => Le L L' ∧ UpR g E x v L') 0 0 ⟨none, 0, 0⟩ L := fun h => normal_Up.go5 ⟨.refl L, .no h rfl⟩
  refine (Check_ro hg).use ⟨_, rfl, bcNE (fun h => absurd (chk_zero.2 hv) h) fun _ => bcD (fun h => c4 (.inl h)) fun h1 => bcD (fun h => c4 (.inr (.inl h))) fun h1' => ?_⟩
  have hr0 : 0 ≤ x.rule := by have : ¬ x.rule < 0 := h1; omega
  have hr1 : x.rule < g.nons := by have : ¬ x.rule ≥ g.nons := h1'; omega
  refine (count_ro x hx hn).use ⟨_, rfl, bcD (fun h => c4 (.inr (.inr (.inl (by omega))))) fun h5 => (divide_spec hv hg).mono ?_⟩
  rintro v L1 ⟨hle1, b, sr, srl, sn, nl, rfl, hq⟩
  by_cases hco : ∃ c, Co g x c
  · obtain ⟨c, hc⟩ := hco
    obtain ⟨c0, hc0, hmin⟩ := least c hc
    refine ⟨_, rfl, (up_spec hv hR h2 h4 hE hc0 ⟨hq, hg.mono hle1.toLeM⟩ (hx.mono hle1.toLeM)).mono ?_⟩
    rintro v L2 ⟨hle2, so, ts, rfl, hso, hd, hnd⟩
    obtain ⟨y, rfl, hw, hdn⟩ := (dv_mean hv hd).non hr1
    have hnl : nodesL [y] = y.nodes := by simp [nodesL]
    have hyn : ∀ c, Co g x c → y.nodes ≤ (E + 1) * c + (endsN x).length := fun c hc => by
      have := Nat.mul_le_mul_left (E + 1) (hmin c hc)
      omega
    have hl := hle1.trans hle2
    refine ⟨so, true, rfl, bcF rfl ?_⟩
    refine hso.get (i := 0) (x := y) rfl fun a1 cs1 hK1 hc1 => ?_
    obtain ⟨s1, rfl, hs1⟩ := TK.open hK1
    refine ⟨_, _, s1, hc1, (Tree_spec (hg.mono hl.toLeM) hs1).mono ?_⟩
    rintro v L3 ⟨rfl, hle3⟩
    have hso2 : SymOk g.terms g.nons ⟨false, x.rule⟩ := ⟨hr0, (fun h => by cases h), fun _ => hr1⟩
    have htwo := chkT_two hv y ⟨false, x.rule⟩ 0 hw hso2
    refine ⟨_, rfl, bcNE (fun h => ?_) fun h => ?_⟩
    · rcases htwo with e | e
      · exact absurd e h
      · refine ⟨hl.trans hle3, .yes c0 y hr0 hr1 (by omega) hc0 hw hdn hyn (.inl ⟨e, ?_⟩)⟩
        show Value.tuple #[zT, .int .i64 (treeE g y)] = _
        unfold treeE; rw [e]
    · refine (hso.mono hle3.toLeM).get (i := 0) (x := y) rfl fun a2 cs2 hK2 hc2 => ?_
      obtain ⟨s2, rfl, hs2⟩ := TK.open hK2
      exact ⟨_, _, s2, hc2, hl.trans hle3, .yes c0 y hr0 hr1 (by omega) hc0 hw hdn hyn (.inr ⟨h, s2, rfl, hs2⟩)⟩
  · have hno : ∀ c, ¬ Co g x c := fun c hc => hco ⟨c, hc⟩
    refine ⟨_, rfl, (up_no hv hR h2 h4 x hr0 hno ⟨hq, hg.mono hle1.toLeM⟩ (hx.mono hle1.toLeM)).mono ?_⟩
    rintro v L2 ⟨hle2, rfl⟩
    exact ⟨⟨none, 0, 0⟩, false, rfl, bcT rfl ⟨hle1.trans hle2, .no (.inr (.inr (.inr hno))) rfl⟩⟩
end Go.Proofs.YtcnkbjipogngaaaDoor.NormT

