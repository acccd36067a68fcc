/- Contracts of the program's functions. -/
import Derived.Test.YtcnkbjipogngaaaDoorCAll4
import Derived.Test.YtcnkbjipogngaaaDoorCAll5
set_option linter.all false
namespace Go.Proofs.YtcnkbjipogngaaaDoor
open Go Go.Proofs.YtcnkbjipogngaaaDoor.GH

inductive DerE (bs : List Bs) : Int → Prop
  | mk (x : Bs) : x ∈ bs → (∀ m ∈ x.2, DerE bs m) → DerE bs x.1

def isN (nl : List Bool) (m : Int) : Prop := 0 ≤ m ∧ nl[m.toNat]? = some true
instance (nl : List Bool) (m : Int) : Decidable (isN nl m) := inferInstanceAs (Decidable (_ ∧ _))
structure NullOk (n : Nat) (bs : List Bs) (nl : List Bool) : Prop where
  len : nl.length = n
  sound : ∀ m, isN nl m → DerE bs m
  closed : ∀ x ∈ bs, (∀ m ∈ x.2, isN nl m) → isN nl x.1

theorem NullOk.iff {n : Nat} {bs : List Bs} {nl : List Bool} (h : NullOk n bs nl) (m : Int) : isN nl m ↔ DerE bs m := by
  refine ⟨h.sound m, fun hd => ?_⟩
  induction hd with
  | mk x hx _ ih => exact h.closed x hx ih

structure BsOk (n : Nat) (x : Bs) : Prop where
  left : 0 ≤ x.1 ∧ x.1 < n
  len : x.2.length ≤ 2
  right : ∀ m ∈ x.2, 0 ≤ m ∧ m < n

def Clo (nl : List Bool) (x : Bs) : Prop := (∀ m ∈ x.2, isN nl m) → isN nl x.1

structure Pass (n : Nat) (bs : List Bs) (nl0 nl : List Bool) (again : Bool) (pre : List Bs) : Prop where
  len : nl.length = n
  sound : ∀ m, isN nl m → DerE bs m
  no : again = false → nl = nl0 ∧ ∀ x ∈ pre, Clo nl x
  yes : again = true → nl.count false < nl0.count false
  le : nl.count false ≤ nl0.count false

theorem set_count {nl : List Bool} {i : Nat} (h : nl[i]? = some false) : (nl.set i true).count false + 1 = nl.count false := by
  have hi := (List.getElem?_eq_some_iff.1 h).1
  have he := (List.getElem?_eq_some_iff.1 h).2
  rw [List.set_eq_take_append_cons_drop, if_pos hi]
  conv => rhs; rw [← List.take_append_drop i nl, List.drop_eq_getElem_cons hi, he]
  simp [List.count_append, List.count_cons]
  omega

theorem nullsFn {L : GHeap} {p c1 : Addr} {c : Nat} {n : Nat} {nl : List Bool} (h1 : L.mem c1 = some (.pointer (some p))) (h2 : L.mem (p.add 8) = some (.slice (some ⟨c, 0, none⟩) n n)) {m : Int} (h0 : 0 ≤ m) (hm : m < n)
    (hb : (0 ≤ ((m.toNat : Nat) : Int) ∧ ((m.toNat : Nat) : Int) < ((n : Nat) : Int)) ∧ ∃ v, nl[m.toNat]? = some v ∧ L.mem ((⟨c, 0, none⟩ : Addr).add (Int.toNat ((m.toNat : Nat) : Int) * 1)) = some (.bool v)) :
    RO PP normal_parts_nulls_1.id ([.int .i64 m] ++ [.pointer (some c1)]) L (.bool (!decide (isN nl m))) := by
  obtain ⟨k, rfl⟩ := Int.eq_ofNat_of_zero_le h0
  rw [Int.toNat_natCast] at hb
  obtain ⟨hr, v, hv, hmem⟩ := hb
  apply normal_parts_nulls_1.go
  refine ⟨_, h1, ⟨some ⟨c, 0, none⟩, n, n⟩, h2, hr, v, hmem, ?_, rfl⟩
  congr 1
  have : decide (isN nl (k : Int)) = v := by
    cases v with
    | true => exact decide_eq_true ⟨h0, by rw [Int.toNat_natCast]; exact hv⟩
    | false => exact decide_eq_false fun h => by have := h.2; rw [Int.toNat_natCast, hv] at this; cases this
  rw [this]

theorem isN_get {nl : List Bool} {m : Int} (h0 : 0 ≤ m) (hm : m < nl.length) : ∃ v, nl[m.toNat]? = some v ∧ (isN nl m ↔ v = true) := by
  obtain ⟨k, rfl⟩ := Int.eq_ofNat_of_zero_le h0
  have hk : k < nl.length := by omega
  refine ⟨nl[k], by rw [Int.toNat_natCast]; exact List.getElem?_eq_getElem hk, ?_⟩
  unfold isN
  rw [Int.toNat_natCast, List.getElem?_eq_getElem hk]
  exact ⟨fun h => Option.some.inj h.2, fun h => ⟨by omega, by rw [h]⟩⟩

theorem Pass.add {n : Nat} {bs : List Bs} {nl0 nl : List Bool} {again : Bool} {pre : List Bs} {x : Bs} (h : Pass n bs nl0 nl again pre) (hx : x ∈ bs) (h0 : nl[x.1.toNat]? = some false) (hall : ∀ m ∈ x.2, isN nl m) (hp : 0 ≤ x.1) :
    Pass n bs nl0 (nl.set x.1.toNat true) true (pre ++ [x]) := by
  have hc := set_count h0
  have hle := h.le
  refine ⟨by rw [List.length_set]; exact h.len, fun m hm => ?_, fun h => (by cases h), fun _ => by omega, by omega⟩
  obtain ⟨m0, hm⟩ := hm
  by_cases he : x.1.toNat = m.toNat
  · have : m = x.1 := by omega
    rw [this]
    exact .mk x hx fun k hk => h.sound k (hall k hk)
  · rw [List.getElem?_set_ne he] at hm
    exact h.sound m ⟨m0, hm⟩
theorem Pass.skip {n : Nat} {bs : List Bs} {nl0 nl : List Bool} {again : Bool} {pre : List Bs} {x : Bs} (h : Pass n bs nl0 nl again pre) (hx : Clo nl x) : Pass n bs nl0 nl again (pre ++ [x]) :=
  ⟨h.len, h.sound, fun h' => ⟨(h.no h').1, fun y hy => by
    rcases List.mem_append.1 hy with hy | hy
    · exact (h.no h').2 y hy
    · rw [List.mem_singleton] at hy; rw [hy]; exact hx⟩, h.yes, h.le⟩

theorem nulls_spec {L0 L : GHeap} {g : Gram} {sg sr srl : Sl} {b n : Nat} {T : Int} {rules : List (List Bs)} (h : NS L0 L b (pvs g sg sr srl nilS T ((n : Nat) : Int))) (hr : IsSl (rS rBs) (L.off (· = b)) srl rules)
    (hok : ∀ l ∈ rules, ∀ x ∈ l, BsOk n x) (hrl : rules.length ≤ 1048576) (hrr : ∀ l ∈ rules, l.length ≤ 1048576) (hn0 : 0 < n) (hn1 : n ≤ 1048576) :
    ACalls PP normal_parts_nulls.id [.pointer (some ⟨b, 0, none⟩)] L fun v L' => v = .tuple #[] ∧ ∃ (sn : Sl) (nl : List Bool), NS L0 L' b (pvs g sg sr srl sn T ((n : Nat) : Int)) ∧ Le (L.off (· = b)) (L'.off (· = b)) ∧ IsSl rB (L'.off (· = b)) sn nl ∧ NullOk n rules.flatten nl := by
  have hrn := hr.n
  generalize hK : (fun v L' => v = Value.tuple #[] ∧ ∃ (sn : Sl) (nl : List Bool), NS L0 L' b (pvs g sg sr srl sn T ((n : Nat) : Int)) ∧ Le (L.off (· = b)) (L'.off (· = b)) ∧ IsSl rB (L'.off (· = b)) sn nl ∧ NullOk n rules.flatten nl) = K
  apply normal_parts_nulls.go
  intro b1 hu1
  simp only [inL]
  obtain ⟨h1, o1, hu1'⟩ := h.alloc hu1 [.pointer (some ⟨b, 0, none⟩)] 1
  have hm1 : ((L.alloc b1 [.pointer (some ⟨b, 0, none⟩)] 1).off (· = b)).mem ⟨b1, 0, none⟩ = some (.pointer (some ⟨b, 0, none⟩)) := by rw [o1, alloc_mem]; rfl
  have hleH : Le (L.off (· = b)) ((L.alloc b1 [.pointer (some ⟨b, 0, none⟩)] 1).off (· = b)) := by rw [o1]; exact .alloc hu1' _ _
  have hr1 := hr.mono hleH.toLeM
  generalize L.alloc b1 [.pointer (some ⟨b, 0, none⟩)] 1 = L1 at *
  have hm1L : L1.mem ⟨b1, 0, none⟩ = some (.pointer (some ⟨b, 0, none⟩)) := off_le.mem _ _ hm1
  generalize hH : L1.off (· = b) = H at *
  -- the passes
  have passes : ∀ (b12 : Nat), b12 ≠ b → ∀ m, ∀ (L2 : GHeap) (nl : List Bool), nl.count false = m → Rw Value.bool L0 H L2 b b12 (pvs g sg sr srl ⟨some ⟨b12, 0, none⟩, n, n⟩ T ((n : Nat) : Int)) n nl → nl.length = n → (∀ k, isN nl k → DerE rules.flatten k) → normal_parts_nulls.c3 K ⟨b1, 0, none⟩ true L2 := by
    intro b12 hne m
    induction m using Nat.strongRecOn with
    | ind m ihm =>
      intro L2 nl hcnt hR hlen hsnd
      have stop : ∀ (L3 : GHeap) (nl : List Bool), Rw Value.bool L0 H L3 b b12 (pvs g sg sr srl ⟨some ⟨b12, 0, none⟩, n, n⟩ T ((n : Nat) : Int)) n nl → NullOk n rules.flatten nl → normal_parts_nulls.c3 K ⟨b1, 0, none⟩ false L3 := by
        intro L3 nl hR hok
        apply normal_parts_nulls.go3
        obtain ⟨g1, g2, g3⟩ := hR.done
        refine bcF rfl ?_
        rw [← hK]
        exact ⟨rfl, _, nl, g1, hleH.trans g2, g3.isBool, hok⟩
      apply normal_parts_nulls.go3
      refine bcT rfl ⟨_, hR.leH.mem _ _ hm1, srl, hR.memP (o := 7) rfl, ?_⟩
      have outer : ∀ i, i ≤ rules.length → ∀ (L3 : GHeap) (nl' : List Bool) (again : Bool), Rw Value.bool L0 H L3 b b12 (pvs g sg sr srl ⟨some ⟨b12, 0, none⟩, n, n⟩ T ((n : Nat) : Int)) n nl' → Pass n rules.flatten nl nl' again (rules.take i).flatten →
          normal_parts_nulls.c6 K ⟨b1, 0, none⟩ again srl ((srl.n : Nat) : Int) ((i : Nat) : Int) L3 := by
        refine down ?_ ?_
        · intro L3 nl' again hR3 hp
          rw [List.take_length] at hp
          apply normal_parts_nulls.go6
          refine bcD (fun h => absurd h (by omega)) fun _ => ?_
          cases again with
          | true => exact ihm _ (by have := hp.yes rfl; omega) L3 nl' rfl hR3 hp.len hp.sound
          | false => exact stop L3 nl' hR3 ⟨hp.len, hp.sound, fun x hx => (hp.no rfl).2 x hx⟩
        · intro i hi ih L3 nl' again hR3 hp
          have hx := List.getElem?_eq_getElem hi
          have hrow := hok _ (List.getElem_mem hi)
          have hrowl := hrr _ (List.getElem_mem hi)
          have hin : ∀ x ∈ rules[i], x ∈ rules.flatten := fun x hx => List.mem_flatten.2 ⟨_, List.getElem_mem hi, hx⟩
          have htk : (rules.take (i + 1)).flatten = (rules.take i).flatten ++ rules[i] := by rw [List.take_succ_eq_append_getElem hi, List.flatten_append, List.flatten_cons, List.flatten_nil, List.append_nil]
          rw [htk] at ih
          generalize rules[i] = row at *
          apply normal_parts_nulls.go6
          refine bcD (fun _ => ?_) fun h => absurd (by omega) h
          refine hr1.get hx fun a cs hKK hcc => ?_
          obtain ⟨sx, rfl, hsx⟩ := hKK
          have hsn := hsx.n
          refine ⟨sx, reads_one (hR3.leH.reads hcc), ?_⟩
          have inner : ∀ j, j ≤ row.length → ∀ (L4 : GHeap) (nl' : List Bool) (again : Bool), Rw Value.bool L0 H L4 b b12 (pvs g sg sr srl ⟨some ⟨b12, 0, none⟩, n, n⟩ T ((n : Nat) : Int)) n nl' → Pass n rules.flatten nl nl' again ((rules.take i).flatten ++ row.take j) →
              normal_parts_nulls.c9 K ⟨b1, 0, none⟩ again srl ((srl.n : Nat) : Int) ((i : Nat) : Int) sx ((sx.n : Nat) : Int) ((j : Nat) : Int) L4 := by
            refine down ?_ ?_
            · intro L4 nl' again hR4 hp
              rw [List.take_length] at hp
              apply normal_parts_nulls.go9
              refine bcD (fun h => absurd h (by omega)) fun _ => ?_
              rw [add_one (by omega)]
              exact ih L4 nl' again hR4 hp
            · intro j hj ihj L4 nl' again hR4 hp
              have hxj := List.getElem?_eq_getElem hj
              have hb := hrow _ (List.getElem_mem hj)
              have hxin := hin _ (List.getElem_mem hj)
              have htk' : (rules.take i).flatten ++ row.take (j + 1) = ((rules.take i).flatten ++ row.take j) ++ [row[j]] := by rw [List.take_succ_eq_append_getElem hj, List.append_assoc]
              rw [htk'] at ihj
              generalize row[j] = x at *
              obtain ⟨left, right⟩ := x
              have hlen4 := hp.len
              have next : ∀ (L5 : GHeap) (nl' : List Bool) (again : Bool), Rw Value.bool L0 H L5 b b12 (pvs g sg sr srl ⟨some ⟨b12, 0, none⟩, n, n⟩ T ((n : Nat) : Int)) n nl' → Pass n rules.flatten nl nl' again (((rules.take i).flatten ++ row.take j) ++ [(left, right)]) →
                  normal_parts_nulls.c13 K ⟨b1, 0, none⟩ again srl ((srl.n : Nat) : Int) ((i : Nat) : Int) sx ((sx.n : Nat) : Int) ((j : Nat) : Int) L5 := by
                intro L5 nl' again f1 f2
                apply normal_parts_nulls.go13
                unfold normal_parts_nulls.t13
                rw [add_one (by omega)]
                exact ihj L5 nl' again f1 f2
              apply normal_parts_nulls.go9
              refine bcD (fun _ => ?_) fun h => absurd (by omega) h
              refine hsx.get hxj fun a cs hKK hcc => ?_
              obtain ⟨sy, rfl, hsy⟩ := hKK
              obtain ⟨v, hv, hvi⟩ := isN_get (nl := nl') hb.left.1 (by rw [hlen4]; exact hb.left.2)
              have hleft := hb.left
              simp only at hleft hv hvi
              obtain ⟨k, rfl⟩ := Int.eq_ofNat_of_zero_le hleft.1
              rw [Int.toNat_natCast] at hv
              have hget := hR4.get hv
              refine ⟨_, sy, hR4.leH.reads hcc, _, hR4.leH.mem _ _ hm1, ⟨some ⟨b12, 0, none⟩, n, n⟩, hR4.memP (o := 8) rfl, hget.1, v, hget.2, bcN (bcI (fun hvt => ?_) fun hvf => ?_)⟩
              · exact next L4 nl' again hR4 (hp.skip fun _ => hvi.2 hvt)
              · subst hvf
                refine (ContainsFuncI_ro (p := fun m => !decide (isN nl' m)) (hsy.mono hR4.leH) (by show right.length ≤ 1048576; have : right.length ≤ 2 := hb.len; omega) fun m hm => ?_).use ⟨_, rfl, ?_⟩
                · have hmr := hb.right m hm
                  obtain ⟨w, hw, _⟩ := isN_get (nl := nl') hmr.1 (by rw [hlen4]; exact hmr.2)
                  have hgm := hR4.get hw
                  exact nullsFn (hR4.leH.mem _ _ hm1) (hR4.memP (o := 8) rfl) hmr.1 hmr.2 ⟨hgm.1, w, hw, hgm.2⟩
                refine bcN (bcI (fun hany => ?_) fun hany => ?_)
                · rw [List.any_eq_true] at hany
                  obtain ⟨m, hm, hmn⟩ := hany
                  exact next L4 nl' again hR4 (hp.skip fun hall => absurd (hall m hm) (by simpa using hmn))
                · rw [List.any_eq_false] at hany
                  have hall : ∀ m ∈ right, isN nl' m := fun m hm => by have := hany m hm; simpa using this
                  refine ⟨_, hR4.leH.mem _ _ hm1, ⟨some ⟨b12, 0, none⟩, n, n⟩, hR4.memP (o := 8) rfl, hR4.put (by have := (List.getElem?_eq_some_iff.1 hv).1; exact this) (x := true) rfl fun L5 h5 => ?_⟩
                  refine next L5 _ true h5 ?_
                  have := hp.add hxin (by simpa using hv) hall (by simpa using hleft.1)
                  simpa using this
          exact inner 0 (Nat.zero_le _) L3 nl' again hR3 (by simpa using hp)
      exact outer 0 (Nat.zero_le _) L2 nl false hR ⟨hlen, hsnd, fun _ => ⟨rfl, fun x hx => by simp at hx⟩, (fun h => by cases h), Nat.le_refl _⟩
  -- what stands before them
  have leaf : ∀ b12, L1.unused b12 → inL (L1.alloc b12 (zeros (Int.toNat ((n : Nat) : Int)) [.bool false]) (Int.toNat ((n : Nat) : Int) * 1)) fun L =>
      L.may ((⟨b, 0, none⟩ : Addr).add 8) 0 1 ∧ inL (L.sets ((⟨b, 0, none⟩ : Addr).add 8) 0 [.slice (some ⟨b12, 0, none⟩) (Int.toNat ((n : Nat) : Int)) (Int.toNat ((n : Nat) : Int))]) fun L => normal_parts_nulls.c2 K ⟨b1, 0, none⟩ L := by
    intro b12 hu
    unfold inL
    rw [Int.toNat_natCast, Nat.mul_one]
    have hR := Rw.start (f := Value.bool) (z := false) rfl h1 hu hn0
    rw [hH] at hR
    obtain ⟨m2, h2⟩ := hR.cell (o := 8) (by simp [pvs]) (.slice (some ⟨b12, 0, none⟩) n n)
    refine ⟨m2, ?_⟩
    apply normal_parts_nulls.go2
    unfold normal_parts_nulls.t2
    refine passes b12 hR.ne _ _ (List.replicate n false) rfl h2 (by simp) (fun k hk => ?_)
    have := hk.2
    rw [List.getElem?_replicate] at this
    split at this <;> cases this
  have hb : (0 ≤ ((n : Nat) : Int) ∧ ((n : Nat) : Int) ≤ ((n : Nat) : Int) ∧ ((n : Nat) : Int) * ((1 : Nat) : Int) ≤ 140737488355328) := by omega
  have hm6 : L1.mem ((⟨b, 0, none⟩ : Addr).add 6) = some (.int .i64 ((n : Nat) : Int)) := h1.mem (o := 6) rfl
  refine ⟨⟨_, hm1L, _, hm1L, _, hm6, hb, leaf⟩, _, hm1L, _, hm6, ⟨_, hm1L, hb, leaf⟩, hb, fun b12 hu => ?_⟩
  exact ⟨_, (Le.alloc hu _ _).mem _ _ hm1L, leaf b12 hu⟩
end Go.Proofs.YtcnkbjipogngaaaDoor

namespace Go.Proofs.YtcnkbjipogngaaaDoor
open Go Go.Proofs.YtcnkbjipogngaaaDoor.GH

theorem extS_mono (rs : List Rule) {i : Nat} (h : i < rs.length) : extS (rs.take i) + exR rs[i] ≤ extS rs := by
  rw [← extS_take h]
  conv => rhs; rw [← List.take_append_drop (i + 1) rs]
  unfold extS
  rw [List.map_append, List.sum_append]; omega

theorem restL_get {c : Int} {n k : Nat} (h : k + 2 < n) : (restL c n).getD (k + 1) 0 = c + (k : Int) := by
  unfold restL
  rw [List.getD_eq_getElem?_getD, List.getElem?_map, List.getElem?_range (by omega)]
  show (if 1 ≤ k + 1 ∧ k + 1 + 1 < n then c + ((k + 1 - 1 : Nat) : Int) else 0) = _
  rw [if_pos (by omega), Nat.add_sub_cancel]

theorem num_ok {g : Gram} (hv : Valid g) {s : Sym} (hs : SymOk g.terms g.nons s) : 0 ≤ num (nT g) s ∧ num (nT g) s < nN g := by
  obtain ⟨h0, h1, h2⟩ := hs
  have ht := hv.terms
  have hn := hv.nons
  unfold nN nT num
  cases hterm : s.term with
  | true => have := h1 hterm; rw [if_pos rfl]; omega
  | false => have := h2 hterm; rw [if_neg (by simp)]; omega

theorem nN_le {g : Gram} (hv : Valid g) : 2 ≤ nN g ∧ nN g ≤ 82 ∧ nT g ≤ 74 ∧ 1 ≤ nT g := by
  have := extS_le hv g.rules.length
  rw [List.take_length] at this
  have ht := hv.terms
  have hn := hv.nons
  unfold nN nT; omega

theorem rulesG_ok {g : Gram} (hv : Valid g) : ∀ l ∈ rulesG g, l.length ≤ 3 ∧ ∀ x ∈ l, BsOk (nN g).toNat x := by
  intro l hl
  obtain ⟨i, hi⟩ := List.mem_iff_getElem?.1 hl
  have hil : i < g.rules.length := by have := (List.getElem?_eq_some_iff.1 hi).1; rw [rulesG_len] at this; exact this
  rw [rulesG_get hil] at hi
  have hok := hv.ok _ (List.getElem_mem hil)
  have hex := extS_mono g.rules hil
  have hN := nN_le hv
  generalize g.rules[i] = r at *
  have hsym : ∀ k, k < r.right.length → 0 ≤ num (nT g) (symAt r k) ∧ num (nT g) (symAt r k) < nN g := fun k hk => num_ok hv (hok.1.right _ (List.mem_of_getElem? (symAt_get hk)))
  have hleft : 0 ≤ r.left ∧ r.left < nN g := by
    have := hok.1.left
    have ht := hv.terms
    unfold nN nT; omega
  have hrest : ∀ k, k + 1 < r.right.length → 0 ≤ restAt (nT g) (restL (g.nons + (extS (g.rules.take i) : Nat)) r.right.length) r k ∧ restAt (nT g) (restL (g.nons + (extS (g.rules.take i) : Nat)) r.right.length) r k < nN g := by
    intro k hk
    unfold restAt
    split
    · rename_i h
      rw [restL_get h]
      unfold exR at hex
      have ht := hv.terms
      have hn := hv.nons
      unfold nN nT; omega
    · exact hsym _ (by omega)
  have h4 := hok.2
  have toN : ∀ {m : Int}, 0 ≤ m ∧ m < nN g → 0 ≤ m ∧ m < ((nN g).toNat : Int) := fun h => by omega
  injection hi with hi
  rw [← hi]
  unfold basesL
  split
  · exact ⟨by simp, fun x hx => by rw [List.mem_singleton] at hx; subst hx; exact ⟨toN hleft, by simp, fun m hm => by cases hm⟩⟩
  · split
    · refine ⟨by simp, fun x hx => ?_⟩
      rw [List.mem_singleton] at hx; subst hx
      exact ⟨toN hleft, by simp, fun m hm => by rw [List.mem_singleton] at hm; subst hm; exact toN (hsym 0 (by omega))⟩
    · refine ⟨by simp [twos]; omega, fun x hx => ?_⟩
      unfold twos at hx
      obtain ⟨k, hk, rfl⟩ := List.mem_map.1 hx
      have hk := List.mem_range.1 hk
      refine ⟨toN ?_, by simp, fun m hm => ?_⟩
      · show 0 ≤ leftAt _ _ _ _ ∧ leftAt _ _ _ _ < _
        unfold leftAt
        split
        · exact hleft
        · exact hrest (k - 1) (by omega)
      · rcases List.mem_cons.1 hm with rfl | hm
        · exact toN (hsym k (by omega))
        · rw [List.mem_singleton] at hm; subst hm
          exact toN (hrest k (by omega))

structure DivQ (L : GHeap) (b : Nat) (g : Gram) (sg sr srl sn : Sl) (nl : List Bool) : Prop where
  mem : ∀ (o : Nat) (v : Value), (pvs g sg sr srl sn (nT g) (nN g))[o]? = some v → L.mem ((⟨b, 0, none⟩ : Addr).add o) = some v
  rests : IsSl (rS rI) L sr (restsL g.nons g.rules)
  rules : IsSl (rS rBs) L srl (rulesG g)
  nulls : IsSl rB L sn nl
  ok : NullOk (nN g).toNat (rulesG g).flatten nl
theorem DivQ.mono {L L' : GHeap} {b : Nat} {g : Gram} {sg sr srl sn : Sl} {nl : List Bool} (h : DivQ L b g sg sr srl sn nl) (hl : LeM L L') : DivQ L' b g sg sr srl sn nl :=
  ⟨fun o v hv => hl.mem _ _ (h.mem o v hv), h.rests.mono hl, h.rules.mono hl, h.nulls.mono hl, h.ok⟩

theorem divide_spec {L : GHeap} {g : Gram} {sg : Sl} (hv : Valid g) (hs : IsSl rRule L sg g.rules) :
    ACalls PP normal_divide.id [gramV g sg] L fun v L' => Le L L' ∧ ∃ (b : Nat) (sr srl sn : Sl) (nl : List Bool), v = .pointer (some ⟨b, 0, none⟩) ∧ DivQ L' b g sg sr srl sn nl := by
  have hN := nN_le hv
  have hNn : (((nN g).toNat : Nat) : Int) = nN g := by omega
  apply normal_divide.go
  intro b hu
  simp only [inL]
  obtain ⟨hp, ho⟩ := PV.new (L0 := L) (vs := pvs g sg nilS nilS nilS 0 g.nons) (tot := 9) hu (LeM.refl L) (by simp [pvs])
  have hns : NS L (L.alloc b (pvs g sg nilS nilS nilS 0 g.nons) 9) b (pvs g sg nilS nilS nilS 0 g.nons) := ⟨hp, by simp [pvs], by rw [ho]; exact .refl _⟩
  have hs0 := hs
  generalize hL1 : L.alloc b (pvs g sg nilS nilS nilS 0 g.nons) 9 = L1 at *
  have hL1' : L.alloc b [.int .i64 g.terms, .int .i64 g.nons, .int .i64 g.start, .slice sg.a sg.n sg.c, .slice none 0 0, .int .i64 0, .int .i64 g.nons, .slice none 0 0, .slice none 0 0] 9 = L1 := hL1
  rw [hL1']
  have e0 : g.nons + ((extS (g.rules.take 0) : Nat) : Int) = g.nons := by simp [extS]
  refine divide_rests hv hs0 ?_ 0 (Nat.zero_le _) L1 nilS (by rw [e0]; exact hns) (.nil _ _ _)
  intro L2 sr h2 ho2
  refine divide_rules hv hs0 ?_ 0 (Nat.zero_le _) L2 nilS h2 ho2.sl (.nil _ _ _)
  intro L3 srl h3 hr3 hrl3
  rw [← hNn] at h3
  have hok := rulesG_ok hv
  refine (nulls_spec h3 hrl3 (fun l hl => (hok l hl).2) (by rw [rulesG_len]; have := hv.many; omega) (fun l hl => by have := (hok l hl).1; omega) (by omega) (by omega)).mono ?_
  rintro v L4 ⟨rfl, sn, nl, h4, hle4, hsn, hnl⟩
  rw [hNn] at h4
  refine ⟨rfl, h4.leL, b, sr, srl, sn, nl, rfl, fun o v hv => h4.mem hv, ?_, ?_, ?_, hnl⟩
  · exact (hr3.mono hle4.toLeM).mono off_le
  · exact (hrl3.mono hle4.toLeM).mono off_le
  · exact hsn.mono off_le
end Go.Proofs.YtcnkbjipogngaaaDoor

