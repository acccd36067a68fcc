/- Package mean: Count returns the number of trees of the word. -/
import Derived.Test.YtilkllimnledeaaCCount2
import Derived.Test.YtilkllimnledeaaCMeanT
set_option linter.all false
namespace Go.Proofs.Ytilkllimnledeaa
open Go Go.Proofs.Ytilkllimnledeaa.GH

section
variable {g : Gram} {w : List Int} {rows : List (List Nat)} {ea cb : Addr} {m1 m2 : Nat} {cN : Part → Option Nat} {H : GHeap} {os : List Part} {x : Part}

theorem gram_syms (hv : Valid g) : ∀ r ∈ g.rules, ∀ y ∈ r.right, SymIn g y := fun r hr y hy => ⟨((hv.ok r hr).1.right y hy).1, fun h => ((hv.ok r hr).1.right y hy).2.2 h⟩

theorem count_step {L0 : GHeap} (hv : Valid g) (ht : Tab g w rows) (hw : w.length ≤ 12) (hc : ∀ x, Card (TP g w x) (cN x)) (hC : CC H g w rows ea cb m1 m2) (hx : POk g w x) (hW : ∀ y ∈ os, Way g (eB rows w) y x) (hM : CMaps L0 m1 m2 cN os) (hle : Le H L0.nob)
    (hIH : x ∉ os → ∀ y, Ch g (eB rows w) x y → ∀ L, CMaps L m1 m2 cN (x :: os) → Le H L.nob → ACalls PP mean_counter_count.id [.pointer (some cb), partV y] L (CPost L m1 m2 cN (x :: os) y)) :
    ACalls PP mean_counter_count.id [.pointer (some cb), partV x] L0 (CPost L0 m1 m2 cN os x) := by
  have hnons := hv.nons
  obtain ⟨key1, key2⟩ := key_ok hx (by omega) hw
  have hsteps := stepOk ht
  have hsy := gram_syms hv
  apply mean_counter_count.go
  refine fun b2 hb2 => inLI fun b3 hb3 => inLI ?_
  have l1 := Le.alloc hb2 [.pointer (some cb)] 1
  have k2 : (L0.alloc b2 [.pointer (some cb)] 1).mem ⟨b2, 0, none⟩ = some (.pointer (some cb)) := alloc_mem
  have o1 : (L0.alloc b2 [.pointer (some cb)] 1).obj = L0.obj := rfl
  generalize L0.alloc b2 [.pointer (some cb)] 1 = L1 at *
  have l2 := Le.alloc hb3 [.int .i64 x.n, .int .i64 ((x.i : Nat) : Int), .int .i64 ((x.j : Nat) : Int)] 3
  have k3 : (L1.alloc b3 [.int .i64 x.n, .int .i64 ((x.i : Nat) : Int), .int .i64 ((x.j : Nat) : Int)] 3).reads ⟨b3, 0, none⟩ 0 [.int .i64 x.n, .int .i64 ((x.i : Nat) : Int), .int .i64 ((x.j : Nat) : Int)] := alloc_reads
  have o2 : (L1.alloc b3 [.int .i64 x.n, .int .i64 ((x.i : Nat) : Int), .int .i64 ((x.j : Nat) : Int)] 3).obj = L1.obj := rfl
  generalize L1.alloc b3 [.int .i64 x.n, .int .i64 ((x.i : Nat) : Int), .int .i64 ((x.j : Nat) : Int)] 3 = L2 at *
  have k2 := l2.mem _ _ k2
  have hL := l1.trans l2
  have hob : L2.obj = L0.obj := o2.trans o1
  have hM2 := hM.same hob
  have hle2 := hle.trans hL.nob
  have hC2 := hC.mono (hle2.toLeM.trans nob_le)
  obtain ⟨od, f1, ho1, hm1, hf1⟩ := hM2.d
  obtain ⟨oo, f2, ho2, hm2, hf2, hg2⟩ := hM2.o
  have back : ∀ v, v = .int .i64 (capC (cN x)) → CPost L0 m1 m2 cN os x v L2 := fun v hv => ⟨hv, hM2, hL.nob, fun r _ _ => by rw [hob]⟩
  refine ⟨_, _, _, k3, _, k2, ptrS ⟨_, hC2.d, ?_⟩⟩
  cases hfx : f1 (partV x) with
  | some v =>
    obtain ⟨y, e1, rfl⟩ := hf1 _ _ hfx
    have := partV_inj e1
    subst this
    exact ⟨_, true, look_of mapT_map_mean_part_int.ty (m := some m1) key1 ⟨od, ho1, hm1⟩ (by show _ = (f1 (partV x)).getD _; rw [hfx]; rfl) (by show _ = (f1 (partV x)).isSome; rw [hfx]; rfl), bcT rfl (back _ rfl)⟩
  | none =>
    refine ⟨0, false, look_of mapT_map_mean_part_int.ty (m := some m1) key1 ⟨od, ho1, hm1⟩ (by show _ = (f1 (partV x)).getD _; rw [hfx]; rfl) (by show _ = (f1 (partV x)).isSome; rw [hfx]; rfl), bcF rfl ?_⟩
    refine ⟨_, _, _, k3, _, k2, ptrS ⟨_, hC2.o, ?_⟩⟩
    have look2 : ∀ (b ok : Bool), .bool b = (f2 (partV x)).getD (.bool false) → ok = (f2 (partV x)).isSome → lookIs PP mapT_map_mean_part_bool L2 (some m2) (partV x) (.bool b) ok := fun b ok h1 h2 =>
      look_of mapT_map_mean_part_bool.ty (m := some m2) key2 ⟨oo, ho2, hm2⟩ h1 h2
    by_cases hxo : x ∈ os
    · have h2 := hg2 x hxo
      refine ⟨true, true, look2 _ _ (by rw [h2]; rfl) (by rw [h2]; rfl), bcT rfl (back _ ?_)⟩
      rw [card_fun (hc x) (way_many hsteps hsy hx (hW x hxo))]; rfl
    · have hno : ∃ ok, lookIs PP mapT_map_mean_part_bool L2 (some m2) (partV x) (.bool false) ok := by
        cases h2 : f2 (partV x) with
        | none => exact ⟨false, look2 _ _ (by rw [h2]; rfl) (by rw [h2]; rfl)⟩
        | some v =>
          obtain ⟨y, b, e1, rfl, e3⟩ := hf2 _ _ h2
          have := partV_inj e1
          subst this
          cases b with
          | false => exact ⟨true, look2 _ _ (by rw [h2]; rfl) (by rw [h2]; rfl)⟩
          | true => exact absurd (e3 rfl) hxo
      obtain ⟨ok, hok⟩ := hno
      refine ⟨false, ok, hok, bcF rfl ⟨_, k2, ptrS ⟨_, hC2.o, _, _, _, k3, ?_⟩⟩⟩
      refine upd_of mapT_map_mean_part_bool.ty key2 hC2.n2 ho2 hm2 fun o' ho' b7 hb7 => inLI ⟨may_box, inLI ?_⟩
      rw [sets_one]
      have hun7 : L2.nob.unused b7 := ⟨hb7.1, rfl⟩
      have hM3 : CMaps (L2.setObj m2 o') m1 m2 cN (x :: os) := by
        refine ⟨⟨od, f1, by show (if _ then _ else _) = _; rw [if_neg hC.ne]; exact ho1, hm1, hf1⟩, o', _, by show (if _ then _ else _) = _; rw [if_pos rfl], ho', fun key v h => ?_, fun y hy => ?_⟩
        · by_cases he : key = partV x
          · subst he
            have h' : fput f2 (partV x) (.bool true) (partV x) = some v := h
            rw [fput_self] at h'
            cases h'; exact ⟨x, true, rfl, rfl, fun _ => List.mem_cons_self ..⟩
          · have h' : fput f2 (partV x) (.bool true) key = some v := h
            rw [fput_ne he] at h'
            obtain ⟨y, b, e1, e2, e3⟩ := hf2 key v h'
            exact ⟨y, b, e1, e2, fun hb => List.mem_cons_of_mem _ (e3 hb)⟩
        · show fput f2 (partV x) (.bool true) (partV y) = _
          rcases List.mem_cons.1 hy with rfl | hy
          · rw [fput_self]
          · by_cases he : partV y = partV x
            · rw [he, fput_self]
            · rw [fput_ne he]; exact hg2 y hy
      have l4 := le_set_new (L := L2.nob) (v := .int .i64 0) (w := .int .i64 0) hun7
      have hm7 : (((L2.setObj m2 o').alloc b7 [.int .i64 0] 1).set ⟨b7, 0, none⟩ (.int .i64 0)).mem ⟨b7, 0, none⟩ = some (.int .i64 0) := by show (if _ then _ else _) = _; rw [if_pos rfl]
      have hw7 : (((L2.setObj m2 o').alloc b7 [.int .i64 0] 1).set ⟨b7, 0, none⟩ (.int .i64 0)).wr ⟨b7, 0, none⟩ := by
        show (L2.setObj m2 o' |>.alloc b7 [.int .i64 0] 1).wr _
        unfold GHeap.alloc; simp
      have hnb : (((L2.setObj m2 o').alloc b7 [.int .i64 0] 1).set ⟨b7, 0, none⟩ (.int .i64 0)).nob = (L2.nob.alloc b7 [.int .i64 0] 1).set ⟨b7, 0, none⟩ (.int .i64 0) := rfl
      have hM4 := hM3.same (L' := ((L2.setObj m2 o').alloc b7 [.int .i64 0] 1).set ⟨b7, 0, none⟩ (.int .i64 0)) rfl
      have hoth : ∀ r, r ≠ m1 → r ≠ m2 → (((L2.setObj m2 o').alloc b7 [.int .i64 0] 1).set ⟨b7, 0, none⟩ (.int .i64 0)).obj r = L0.obj r := fun r _ h2 => by
        show (if _ then _ else _) = _
        rw [if_neg h2, hob]
      generalize ((L2.setObj m2 o').alloc b7 [.int .i64 0] 1).set ⟨b7, 0, none⟩ (.int .i64 0) = L4 at *
      rw [← hnb] at l4
      have up4 : LeM L2.nob L4 := l4.toLeM.trans nob_le
      have hC4 := hC.mono (hle2.toLeM.trans up4)
      obtain ⟨srl, hr1, hr2⟩ := hC4.er.rules
      have k2' := up4.mem _ _ (show L2.nob.mem _ = _ from k2)
      obtain ⟨srl', hr1', hr2'⟩ := (hC.mono hle2.toLeM).er.rules
      refine ⟨_, k2', ptrS ⟨_, hC4.e, srl', up4.mem _ _ hr1', ?_⟩⟩
      have hle4 : Le L2.nob (L4.nob.off (· = b7)) := le_off (M := (· = b7)) l4 fun b hb => by rw [hb]; exact hun7
      have hrd : L2.nob.reads ⟨b3, 0, none⟩ 0 [.int .i64 x.n, .int .i64 ((x.i : Nat) : Int), .int .i64 ((x.j : Nat) : Int)] := reads_iff.2 fun j v hj => reads_iff.1 k3 j v hj
      refine count_c9 (L0 := L0) (B := L2.nob) hv ht hw hC hle2 hL.nob hx hxo k2 hrd hr2' hun7 (hIH hxo) g.rules.length 0 (by omega) (some 0) L4 ?_ hM4 hm7 hw7 hoth hle4
      rw [List.drop_zero]; exact sum_all hc hsteps hsy hx.ij hx.jw

/-- All parts of a word. -/
def allParts (g : Gram) (w : List Int) : List Part := (List.range g.nons.toNat).flatMap fun (n : Nat) => (List.range (w.length + 1)).flatMap fun i => (List.range (w.length + 1)).map fun j => ⟨((n : Nat) : Int), i, j⟩

theorem mem_parts (hx : POk g w x) : x ∈ allParts g w := by
  have h0 := hx.n0
  have h1 := hx.n1
  have h2 := hx.ij
  have h3 := hx.jw
  unfold allParts
  simp only [List.mem_flatMap, List.mem_map, List.mem_range]
  refine ⟨x.n.toNat, by omega, x.i, by omega, x.j, by omega, ?_⟩
  obtain ⟨n, i, j⟩ := x
  simp only at h0 ⊢
  rw [Int.toNat_of_nonneg h0]

theorem count_spec (hv : Valid g) (ht : Tab g w rows) (hw : w.length ≤ 12) (hc : ∀ x, Card (TP g w x) (cN x)) (hC : CC H g w rows ea cb m1 m2) : ∀ (d : Nat) (os : List Part) (x : Part) (L0 : GHeap), os.Nodup → (∀ y ∈ os, POk g w y) → os.length + d = (allParts g w).length →
    POk g w x → (∀ y ∈ os, Way g (eB rows w) y x) → CMaps L0 m1 m2 cN os → Le H L0.nob → ACalls PP mean_counter_count.id [.pointer (some cb), partV x] L0 (CPost L0 m1 m2 cN os x) := by
  intro d
  induction d with
  | zero =>
    intro os x L0 hn hos hd hx hW hM hle
    refine count_step hv ht hw hc hC hx hW hM hle fun hxo => ?_
    have := nodup_le (l := x :: os) (l' := allParts g w) (List.nodup_cons.2 ⟨hxo, hn⟩) fun y hy => by
      rcases List.mem_cons.1 hy with rfl | hy
      · exact mem_parts hx
      · exact mem_parts (hos y hy)
    simp at this; omega
  | succ d ih =>
    intro os x L0 hn hos hd hx hW hM hle
    refine count_step hv ht hw hc hC hx hW hM hle fun hxo y hch L hM' hle' => ?_
    refine ih (x :: os) y L (List.nodup_cons.2 ⟨hxo, hn⟩) (fun z hz => ?_) (by simp; omega) (ch_ok (stepOk ht) (gram_syms hv) hx hch) (fun z hz => ?_) hM' hle'
    · rcases List.mem_cons.1 hz with rfl | hz
      · exact hx
      · exact hos z hz
    · rcases List.mem_cons.1 hz with rfl | hz
      · exact .one hch
      · exact .more (hW z hz) hch
end

/-- The trees of a word. -/
def TW (g : Gram) (w : List Int) (t : Tree) : Prop := WT g ⟨false, g.start⟩ t ∧ t.yield = w

/-- What Count returns. -/
def CountPost (g : Gram) (w : List Int) (L : GHeap) (v : Value) (L' : GHeap) : Prop :=
  Le L L' ∧ ∃ c : Int, v = .tuple #[.int .i64 c, .int .i64 (mchk g w)] ∧ (mchk g w ≠ 0 → c = 0) ∧ (mchk g w = 0 → ∃ k, Card (TW g w) k ∧ c = capC k)

theorem Count_spec {L : GHeap} {g : Gram} {w : List Int} {sg sw : Sl} (hs : IsSl rRule L sg g.rules) (hw : IsSl rI L sw w) :
    ACalls PP mean_Count.id [gramV g sg, .slice sw.a sw.n sw.c] L (CountPost g w L) := by
  apply mean_Count.go
  refine (mcheck_ro hs hw).use ⟨_, rfl, bcNE (fun h => ⟨.refl L, 0, rfl, fun _ => rfl, fun h' => absurd h' h⟩) fun h => ?_⟩
  have hc : chk g = 0 := by
    unfold mchk at h
    split at h
    · rename_i h'; exact absurd h h'
    · rename_i h'; simpa using h'
  have hv := chk_zero.1 hc
  have hlen : w.length ≤ 12 := by
    unfold mchk at h
    rw [if_neg (by simpa using hc)] at h
    unfold wordE at h
    split at h
    · cases h
    · omega
  refine (derived_spec hs hw hv hlen).mono ?_
  rintro v L1 ⟨ea, rows, rfl, hle, he, ht⟩
  have hst := hv.start
  have hz : g.start = ((g.start.toNat : Nat) : Int) := by omega
  refine ⟨_, rfl, ?_⟩
  have := is_ro (n := g.start.toNat) (i := 0) (j := w.length) he ht hlen (by omega) (Nat.zero_le _) (Nat.le_refl _)
  rw [← hz] at this
  have hwn := hw.n
  rw [hwn]
  refine this.use ⟨_, rfl, ?_⟩
  have hb := ht.bit g.start.toNat 0 w.length (by omega) (Nat.zero_le _)
  rw [← hz, seg_all] at hb
  have htw : ∀ t, TP g w ⟨g.start, 0, w.length⟩ t ↔ TW g w t := fun t => by unfold TP TW; rw [seg_all]
  refine bcN ?_
  cases hbit : (cell rows g.start 0).testBit w.length with
  | false =>
    refine ⟨hle, 0, by rw [h], fun h' => absurd h h', fun _ => ⟨some 0, card_none fun t ⟨h1, h2⟩ => ?_, rfl⟩⟩
    have := h1.ds
    rw [h2] at this
    rw [hb.2 ⟨Nat.zero_le _, Nat.le_refl _, this⟩] at hbit; cases hbit
  | true =>
    obtain ⟨_, _, hds⟩ := hb.1 hbit
    intro m27 hu27 hn27 m28 hu28 hn28 b30 hb30
    refine inLI ?_
    have hne : m27 ≠ m28 := fun e => by
      subst e
      have := hu28.2
      have e2 : ((L1.setObj m27 (.map #[] 0)).obj m27) = some (.map #[] 0) := by show (if _ then _ else _) = _; rw [if_pos rfl]
      rw [e2] at this; cases this
    have hun28 : L1.obj m28 = none := by
      have := hu28.2
      have e2 : ((L1.setObj m27 (.map #[] 0)).obj m28) = L1.obj m28 := by show (if _ then _ else _) = _; rw [if_neg hne.symm]
      rw [e2] at this; exact this
    have hun30 : L1.nob.unused b30 := ⟨hb30.1, rfl⟩
    have l4 := Le.alloc hun30 [.pointer (some ea), .map (some m27), .map (some m28)] 3
    have hC : CC (L1.nob.alloc b30 [.pointer (some ea), .map (some m27), .map (some m28)] 3) g w rows ea ⟨b30, 0, none⟩ m27 m28 :=
      ⟨alloc_mem, by rw [spot_add]; exact alloc_mem, by rw [spot_add]; exact alloc_mem, ⟨let ⟨s, a, b⟩ := he.rules; ⟨s, l4.mem _ _ a, (nobRule b).mono l4.toLeM⟩, let ⟨s, a, b⟩ := he.word; ⟨s, l4.mem _ _ a, (nobI b).mono l4.toLeM⟩, let ⟨s, a, b⟩ := he.tab; ⟨s, l4.mem _ _ a, (nobS (fun _ _ h => h) b).mono l4.toLeM⟩⟩, hn27, hn28, hne⟩
    obtain ⟨cN, hcN⟩ : ∃ cN : Part → Option Nat, ∀ x, Card (TP g w x) (cN x) := ⟨fun x => Classical.choose (card_ex (TP g w x)), fun x => Classical.choose_spec (card_ex (TP g w x))⟩
    have hM : CMaps (((L1.setObj m27 (.map #[] 0)).setObj m28 (.map #[] 0)).alloc b30 [.pointer (some ea), .map (some m27), .map (some m28)] 3) m27 m28 cN [] :=
      ⟨⟨_, _, by show (if _ then _ else if _ then _ else _) = _; rw [if_neg hne, if_pos rfl], MapO.nil, fun _ _ h => by cases h⟩, _, _, by show (if _ then _ else _) = _; rw [if_pos rfl], MapO.nil, fun _ _ h => (by cases h), fun _ h => by cases h⟩
    have hx : POk g w ⟨g.start, 0, w.length⟩ := by
      refine ⟨hst.1, hst.2, Nat.zero_le _, Nat.le_refl _, ?_⟩
      obtain ⟨ks, h1, h2⟩ := hds.trees
      cases ks with
      | nil => simp [WTs] at h1
      | cons k ks =>
        simp only [WTs] at h1
        cases ks with
        | cons k' ks => simp [WTs] at h1
        | nil => simp only [yields, List.append_nil] at h2; exact ⟨k, h1.1, by rw [seg_all]; exact h2⟩
    have hnb : (((L1.setObj m27 (.map #[] 0)).setObj m28 (.map #[] 0)).alloc b30 [.pointer (some ea), .map (some m27), .map (some m28)] 3).nob = L1.nob.alloc b30 [.pointer (some ea), .map (some m27), .map (some m28)] 3 := rfl
    refine (count_spec hv ht hlen hcN hC (allParts g w).length [] ⟨g.start, 0, w.length⟩ _ List.nodup_nil (fun _ h => by cases h) (by simp) hx (fun _ h => by cases h) hM (by rw [hnb]; exact .refl _)).mono fun v L' ⟨e1, e2, e3, e4⟩ => ⟨_, e1, ?_, ?_⟩
    · refine hle.trans ⟨⟨fun a v hm => ?_, fun a hm => ?_, fun r o hm => ?_, ?_, ?_⟩, fun a hm hm' => ?_⟩
      · exact e3.mem a v (by rw [hnb]; exact l4.mem a v hm)
      · exact e3.wr a (by rw [hnb]; exact l4.wr a hm)
      · rw [e4 r (fun e => by subst e; rw [hu27.2] at hm; cases hm) (fun e => by subst e; rw [hun28] at hm; cases hm)]
        show (if _ then _ else if _ then _ else _) = _
        rw [if_neg (fun e => by subst e; rw [hun28] at hm; cases hm), if_neg (fun e => by subst e; rw [hu27.2] at hm; cases hm)]; exact hm
      · exact e3.w0
      · exact e3.n0
      · exact e3.free a (by rw [hnb]; exact l4.wr a hm) (by rw [hnb]; exact l4.free a hm hm')
    · exact ⟨_, by rw [h], fun h' => absurd h h', fun _ => ⟨_, card_iff htw (hcN _), rfl⟩⟩
end Go.Proofs.Ytilkllimnledeaa
