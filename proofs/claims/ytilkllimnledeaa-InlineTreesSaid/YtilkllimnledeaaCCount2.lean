/- Package mean: Count, the whole of it. -/
import Derived.Test.YtilkllimnledeaaCCount
set_option linter.all false
namespace Go.Proofs.Ytilkllimnledeaa
open Go Go.Proofs.Ytilkllimnledeaa.GH

section
variable {M : Nat → Prop} {L L' : GHeap}
theorem le_sets_new {b n : Nat} {cs vs : List Value} (hu : L.unused b) : Le L ((L.alloc b cs n).sets ⟨b, 0, none⟩ 0 vs) := by
  have hm : ∀ a : Addr, a.block ≠ b → ((L.alloc b cs n).sets ⟨b, 0, none⟩ 0 vs).mem a = (L.alloc b cs n).mem a := fun a ha => sets_mem vs _ _ 0 a fun j _ e => ha (by rw [e, add_block])
  obtain ⟨r1, r2, r3, r4⟩ := sets_rest vs (L.alloc b cs n) ⟨b, 0, none⟩ 0
  refine ⟨⟨fun a u e => ?_, fun a e => by rw [r1]; exact (Le.alloc hu cs n).wr a e, fun _ _ e => by rw [r2]; exact e, r3, r4⟩, fun a e e' => ?_⟩
  · rw [hm a (mem_block hu e)]; exact (Le.alloc hu cs n).mem a u e
  · rw [hm a (wr_block hu e)]; exact (Le.alloc hu cs n).free a e e'

/-- A new block, and what is put into it. -/
theorem Adv.puts (hl : Live M L) {b n : Nat} (hu : L.unused b) (cs vs : List Value) : Adv M L ((L.alloc b cs n).sets ⟨b, 0, none⟩ 0 vs) ∧ ∀ (i : Nat) (v : Value), vs[i]? = some v → ((L.alloc b cs n).sets ⟨b, 0, none⟩ 0 vs).mem ⟨b, i, none⟩ = some v := by
  have hb := hl.not hu
  obtain ⟨r1, r2, r3, r4⟩ := sets_rest vs (L.alloc b cs n) ⟨b, 0, none⟩ 0
  refine ⟨⟨(SameOn.alloc (cs := cs) (n := n) hb).trans (.sets hb), r2, r4, ?_⟩, fun i v h => ?_⟩
  · have e1 : ((L.alloc b cs n).sets ⟨b, 0, none⟩ 0 vs).nob.off M = ((L.nob.off M).alloc b cs n).sets ⟨b, 0, none⟩ 0 vs := by
      rw [nob_sets, nob_alloc, off_sets_out hb, off_alloc hb]
    rw [e1]; exact le_sets_new (unused_off (nob_unused hu))
  · have := sets_at vs (L.alloc b cs n) ⟨b, 0, none⟩ 0 rfl i v h
    rwa [spot_add, Nat.zero_add, Nat.zero_add] at this

theorem alloc_may {b n k : Nat} {cs : List Value} (h : k ≤ n) : (L.alloc b cs n).may ⟨b, 0, none⟩ 0 k := may_of fun j hj => by
  rw [spot_add, Nat.zero_add, Nat.zero_add]
  unfold GHeap.alloc; simp only [if_true]
  exact ⟨trivial, by omega⟩
end

theorem key_ok {g : Gram} {w : List Int} {x : Part} (hx : POk g w x) (hn : g.nons ≤ 10) (hw : w.length ≤ 12) : (∃ l, keyOf PP mapT_map_mean_part_int.k (partV x) = some l) ∧ ∃ l, keyOf PP mapT_map_mean_part_bool.k (partV x) = some l := by
  have h1 := hx.n0; have h2 := hx.n1; have h3 := hx.ij; have h4 := hx.jw
  have key : ∀ a ∈ [x.n, ((x.i : Nat) : Int), ((x.j : Nat) : Int)], -9223372036854775808 ≤ a ∧ a ≤ 9223372036854775807 := by
    intro a ha
    simp only [List.mem_cons, List.not_mem_nil, or_false] at ha
    rcases ha with rfl | rfl | rfl <;> omega
  refine ⟨?_, ?_⟩
  · unfold partV; rw [mapT_map_mean_part_int.key]; exact keyI_ok key
  · unfold partV; rw [mapT_map_mean_part_bool.key]; exact keyI_ok key

section
variable {g : Gram} {w : List Int} {rows : List (List Nat)} {ea cb : Addr} {m1 m2 : Nat} {cN : Part → Option Nat} {H : GHeap} {os : List Part} {x : Part}

/-- The loop over the rules. -/
theorem count_c9 {L0 B : GHeap} {b2 b3 b7 : Nat} {srl : Sl} (hv : Valid g) (ht : Tab g w rows) (hw : w.length ≤ 12) (hC : CC H g w rows ea cb m1 m2) (hHB : Le H B) (hL0B : Le L0.nob B) (hx : POk g w x) (hxo : x ∉ os)
    (k2 : B.mem ⟨b2, 0, none⟩ = some (.pointer (some cb))) (k3 : B.reads ⟨b3, 0, none⟩ 0 [.int .i64 x.n, .int .i64 ((x.i : Nat) : Int), .int .i64 ((x.j : Nat) : Int)]) (hrl : IsSl rRule B srl g.rules) (hun : B.unused b7)
    (hIH : ∀ y, Ch g (eB rows w) x y → ∀ L, CMaps L m1 m2 cN (x :: os) → Le H L.nob → ACalls PP mean_counter_count.id [.pointer (some cb), partV y] L (CPost L m1 m2 cN (x :: os) y)) :
    ∀ (d k : Nat), k + d = g.rules.length → ∀ (a : Option Nat) (L : GHeap), sumRs cN (eB rows w) x a (g.rules.drop k) = cN x → CMaps L m1 m2 cN (x :: os) → L.mem ⟨b7, 0, none⟩ = some (.int .i64 (capC a)) → L.wr ⟨b7, 0, none⟩ →
      (∀ r, r ≠ m1 → r ≠ m2 → L.obj r = L0.obj r) → Le B (L.nob.off (· = b7)) →
      mean_counter_count.c9 (CPost L0 m1 m2 cN os x) ⟨b2, 0, none⟩ ⟨b3, 0, none⟩ ⟨b7, 0, none⟩ srl ((srl.n : Nat) : Int) ((k : Nat) : Int) L := by
  have hnons := hv.nons
  have hrules := hv.many
  have hsrn := hrl.n
  obtain ⟨key1, key2⟩ := key_ok hx (by omega) hw
  intro d
  induction d with
  | zero =>
    intro k hk a L hsum hM hs hwr hoth hle
    rw [List.drop_of_length_le (by omega)] at hsum
    simp only [sumRs] at hsum
    subst hsum
    have up : LeM B L := hle.toLeM.trans (off_le.trans nob_le)
    have hCL := hC.mono (hHB.toLeM.trans up)
    apply mean_counter_count.go9
    refine bcD (fun h => absurd h (by omega)) fun _ => ⟨_, up.mem _ _ k2, ptrS ⟨_, hCL.o, _, _, _, up.reads k3, ?_⟩⟩
    obtain ⟨o1, f1, ho1, hm1, hf1⟩ := hM.d
    obtain ⟨o2, f2, ho2, hm2, hf2, hg2⟩ := hM.o
    refine upd_of mapT_map_mean_part_bool.ty key2 hCL.n2 ho2 hm2 fun o' ho' => ?_
    refine ⟨_, up.mem _ _ k2, ptrS ⟨_, hCL.d, _, _, _, up.reads k3, _, hs, ?_⟩⟩
    refine upd_of mapT_map_mean_part_int.ty (o := o1) key1 hCL.n1 (by show (if _ then _ else _) = _; rw [if_neg hC.ne]; exact ho1) hm1 fun o3 ho3 => ⟨_, hs, rfl, ⟨⟨o3, _, by show (if _ then _ else _) = _; rw [if_pos rfl], ho3, fun key v h => ?_⟩, o', _, ?_, ho', fun key v h => ?_, fun y hy => ?_⟩, ?_, fun r h1 h2 => ?_⟩
    · by_cases he : key = partV x
      · subst he
        have h' := h
        unfold partV at h'
        rw [fput_self] at h'
        cases h'; exact ⟨x, rfl, rfl⟩
      · have h' : fput f1 (partV x) (.int .i64 (capC (cN x))) key = some v := h
        rw [fput_ne he] at h'; exact hf1 key v h'
    · show (if _ then _ else if _ then _ else _) = _
      rw [if_neg hC.ne.symm, if_pos rfl]
    · by_cases he : key = partV x
      · subst he
        have h' : fput f2 (partV x) (.bool false) (partV x) = some v := h
        rw [fput_self] at h'
        cases h'; exact ⟨x, false, rfl, rfl, fun h => by cases h⟩
      · have h' : fput f2 (partV x) (.bool false) key = some v := h
        rw [fput_ne he] at h'
        obtain ⟨y, b, e1, e2, e3⟩ := hf2 key v h'
        refine ⟨y, b, e1, e2, fun hb => ?_⟩
        rcases List.mem_cons.1 (e3 hb) with rfl | h
        · exact absurd e1 he
        · exact h
    · have he : partV y ≠ partV x := fun e => hxo (by rw [← partV_inj e]; exact hy)
      show fput f2 (partV x) (.bool false) (partV y) = _
      rw [fput_ne he]; exact hg2 y (List.mem_cons_of_mem _ hy)
    · exact hL0B.trans (le_of_off (M := (· = b7)) (fun b hb => by rw [hb]; exact hun) hle)
    · show (if _ then _ else if _ then _ else _) = _
      rw [if_neg h1, if_neg h2]; exact hoth r h1 h2
  | succ d ih =>
    intro k hk a L hsum hM hs hwr hoth hle
    have hklt : k < g.rules.length := by omega
    have hr := List.getElem?_eq_getElem hklt
    have hdrop := List.drop_eq_getElem_cons hklt
    have hmem := List.getElem_mem hklt
    generalize g.rules[k] = r at hr hdrop hmem
    have up : LeM B L := hle.toLeM.trans (off_le.trans nob_le)
    have hlive : Live (· = b7) L := fun b hb => ⟨⟨b7, 0, none⟩, hb.symm, hwr⟩
    rw [hdrop] at hsum
    simp only [sumRs] at hsum
    have next : ∀ (a' : Option Nat) (L' : GHeap), sumRs cN (eB rows w) x a' (g.rules.drop (k + 1)) = cN x → CMaps L' m1 m2 cN (x :: os) → L'.mem ⟨b7, 0, none⟩ = some (.int .i64 (capC a')) → L'.wr ⟨b7, 0, none⟩ → (∀ r, r ≠ m1 → r ≠ m2 → L'.obj r = L0.obj r) → Le B (L'.nob.off (· = b7)) →
        mean_counter_count.c13 (CPost L0 m1 m2 cN os x) ⟨b2, 0, none⟩ ⟨b3, 0, none⟩ ⟨b7, 0, none⟩ srl ((srl.n : Nat) : Int) ((k : Nat) : Int) L' := by
      intro a' L' h1 h2 h3 h4 h5 h6
      apply mean_counter_count.go13
      unfold mean_counter_count.t13
      rw [add_one (by omega)]
      exact ih (k + 1) (by omega) a' L' h1 h2 h3 h4 h5 h6
    apply mean_counter_count.go9
    refine bcD (fun _ => ?_) fun h => absurd (by omega) h
    refine (hrl.mono hle.toLeM).get hr fun ad cs hK hc => ?_
    obtain ⟨sr, rfl, hsr⟩ := hK
    refine ⟨_, sr, (off_le.trans nob_le).reads hc, fun b9 hb9 => inLI ⟨alloc_may (by omega), inLI ?_⟩⟩
    obtain ⟨A, hput⟩ := Adv.puts (n := 2) hlive hb9 [.int .i64 0, .slice none 0 0] [.int .i64 r.left, .slice sr.a sr.n sr.c]
    have p0 := hput 0 _ rfl
    have p1 := hput 1 _ rfl
    generalize (L.alloc b9 [.int .i64 0, .slice none 0 0] 2).sets ⟨b9, 0, none⟩ 0 [.int .i64 r.left, .slice sr.a sr.n sr.c] = L1 at *
    have hle1 := hle.trans A.le
    have up1 : LeM B L1 := hle1.toLeM.trans (off_le.trans nob_le)
    have hM1 := hM.same A.obj
    have hs1 : L1.mem ⟨b7, 0, none⟩ = some (.int .i64 (capC a)) := by rw [(A.same ⟨b7, 0, none⟩ rfl).1]; exact hs
    have hwr1 : L1.wr ⟨b7, 0, none⟩ := (A.same ⟨b7, 0, none⟩ rfl).2.2 hwr
    have hoth1 : ∀ r, r ≠ m1 → r ≠ m2 → L1.obj r = L0.obj r := fun r h1 h2 => by rw [A.obj]; exact hoth r h1 h2
    have k30 : L1.mem ⟨b3, 0, none⟩ = some (.int .i64 x.n) := up1.mem _ _ (by have := k3.1; rwa [add_zero] at this)
    refine ⟨_, p0, _, k30, bcNE (fun hne => ?_) fun heq => ?_⟩
    · rw [if_neg hne] at hsum
      exact next a L1 hsum hM1 hs1 hwr1 hoth1 hle1
    · rw [if_pos heq] at hsum
      have k31 : L1.mem ⟨b3, 1, none⟩ = some (.int .i64 ((x.i : Nat) : Int)) := up1.mem _ _ (by have := k3.2.1; rwa [spot_add] at this)
      have k32 : L1.mem ⟨b3, 2, none⟩ = some (.int .i64 ((x.j : Nat) : Int)) := up1.mem _ _ (by have := k3.2.2.1; rwa [spot_add] at this)
      have hC1 := hC.mono (hHB.toLeM.trans up1)
      refine ⟨sr, p1, _, by rw [spot_add]; exact k31, _, by rw [spot_add]; exact k32, _, up1.mem _ _ k2, ptrS ⟨_, hC1.e, ?_⟩⟩
      have hrok := hv.ok r hmem
      have hright : r.right.length ≤ 4 := hrok.2
      have hsy : ∀ y ∈ r.right, SymIn g y := fun y hy => ⟨(hrok.1.right y hy).1, fun h => (hrok.1.right y hy).2.2 h⟩
      have hsh : Shape w rows := ⟨ht.row, ht.small, hw⟩
      have hne7 : ∀ {ad : Addr} {v : Value}, B.mem ad = some v → ad.block ≠ b7 := fun hm => mem_block hun hm
      have n9 : ¬ b9 = b7 := hlive.not hb9
      have hH1 : Le H (L1.nob.off (· = b7)) := hHB.trans hle1
      have hlists : ∀ ls ∈ spl (eB rows w) r.right x.i x.j, OkL (eB rows w) r.right x.i x.j ls := fun ls h => mem_spl.1 h
      have hF := count1_spec (L0 := L0) (H := H) (H1 := L1.nob.off (· = b7)) (sb := b7) (b2 := b2) (b3 := b3) (b9 := b9) (r := r) (sr := sr) (a := a) (x := x) (os := x :: os) (lists := spl (eB rows w) r.right x.i x.j) hC hH1
        (hle1.mem _ _ k2) (hle1.mem _ _ (by have := k3.2.1; rwa [spot_add] at this)) (by rw [off_mem (M := (· = b7)) n9]; exact p1) (hsr.mono A.le.toLeM) (by omega) hlists
        (fun ls hls y hy => hIH y ⟨k, r, hr, heq, ls, hls, hy⟩)
      refine (splits_spec (stepOk ht) hsh (fun y hy h => ⟨(hsy y hy).1, by have := (hsy y hy).2 h; rw [ht.len]; omega⟩) hsy (by omega) hx.ij hx.jw hF ⟨hM1, by simpa [sumL] using hs1, hwr1, hoth1⟩ (.refl _) (hC.er.mono hH1.toLeM) (hsr.mono A.le.toLeM)).mono fun v L' ⟨e1, e2, e3⟩ => ⟨e1, ?_⟩
      refine next _ L' hsum e2.maps ?_ e2.wr e2.oth (hle1.trans e3)
      have := e2.sum
      rwa [List.take_length] at this
end
end Go.Proofs.Ytilkllimnledeaa
