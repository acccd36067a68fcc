/- normal.chains: the steps, and the whole. -/
import Derived.Test.YtcnkbjipogngaaaDoorCNormFw
import Derived.Test.YtcnkbjipogngaaaDoorCNormDiv3
set_option linter.all false
namespace Go.Proofs.YtcnkbjipogngaaaDoor.NormC
open Go Go.Proofs.YtcnkbjipogngaaaDoor.GH

/-- A rule leads to a symbol, the other one having the empty word. -/
def StO (nl : List Bool) (x : Bs) (i : Nat) (b : Int) : Prop := x.2[i]? = some b ∧ (x.2.length = 1 ∨ ∃ m, x.2[1 - i]? = some m ∧ isN nl m)
def Ste (bs : List Bs) (nl : List Bool) (a b : Int) : Prop := a = b ∨ ∃ x ∈ bs, x.1 = a ∧ ∃ i, StO nl x i b

def idM (n : Nat) : List (List Bool) := (List.range n).map fun a => (List.replicate n false).set a true
theorem idM_len (n : Nat) : (idM n).length = n := by simp [idM]
theorem idM_take {n k : Nat} (h : k < n) : (idM n).take (k + 1) = (idM n).take k ++ [(List.replicate n false).set k true] := by
  rw [List.take_succ_eq_append_getElem (by rw [idM_len]; exact h)]
  simp [idM]
theorem idM_cell {n a b : Nat} (ha : a < n) (hb : b < n) : cellB (idM n) a b = decide (a = b) := by
  refine cellB_at (row := (List.replicate n false).set a true) (by simp [idM, ha]) ?_
  by_cases h : a = b
  · subst h; rw [List.getElem?_set_self (by simpa using ha)]; simp
  · rw [List.getElem?_set_ne h, List.getElem?_replicate, if_pos hb]; simp [h]
theorem idM_tab (n : Nat) : Tab n (idM n) := ⟨idM_len n, fun r hr => by
  unfold idM at hr
  obtain ⟨a, _, rfl⟩ := List.mem_map.1 hr
  simp⟩

theorem inL_i {L : GHeap} {k : GHeap → Prop} (h : k L) : inL L k := h

section
variable {K : Value → GHeap → Prop} {L : GHeap} {g : Gram} {b ob : Nat} {sg sr srl sn : Sl} {nl : List Bool}

theorem chains_make (hv : Valid g) (hq : DivQ L b g sg sr srl sn nl)
    (hnext : ∀ (L2 : GHeap) (bl : List Nat), Mat Value.bool L L2 bl ⟨some ⟨ob, 0, none⟩, (nN g).toNat, (nN g).toNat⟩ (nN g).toNat (idM (nN g).toNat) → normal_parts_chains.c9 K (some ⟨b, 0, none⟩) ⟨some ⟨ob, 0, none⟩, (nN g).toNat, (nN g).toNat⟩ srl ((srl.n : Nat) : Int) 0 L2) :
    ∀ k, k ≤ (nN g).toNat → ∀ (bl : List Nat) (L2 : GHeap), bl.length = k → MakeR Value.bool L L2 ob (nN g).toNat (nN g).toNat bl ((idM (nN g).toNat).take k) →
      normal_parts_chains.c3 K (some ⟨b, 0, none⟩) ⟨some ⟨ob, 0, none⟩, (nN g).toNat, (nN g).toNat⟩ (((nN g).toNat : Nat) : Int) ((k : Nat) : Int) L2 := by
  have hN := nN_le hv
  have hm6 : L.mem ((⟨b, 0, none⟩ : Addr).add 6) = some (.int .i64 (nN g)) := hq.mem 6 _ rfl
  have hm7 := hq.mem 7 _ rfl
  generalize hnn : (nN g).toNat = nn at *
  have hNi : nN g = (nn : Int) := by omega
  rw [hNi] at hm6
  have leL : ∀ {L2 : GHeap} {bl : List Nat} {rs : List (List Bool)}, MakeR Value.bool L L2 ob nn nn bl rs → LeM L L2 := fun p => p.le.toLeM.trans off_le
  refine down ?_ ?_
  · intro bl L2 hbl hp
    rw [List.take_of_length_le (by rw [idM_len]; omega)] at hp
    apply normal_parts_chains.go3
    refine bcD (fun h => absurd h (by omega)) fun _ => ⟨srl, (leL hp).mem _ _ hm7, ?_⟩
    exact hnext L2 bl (hp.done (by omega) hbl (by omega))
  · intro k hk ih bl L2 hbl hp
    subst hbl
    apply normal_parts_chains.go3
    refine bcD (fun _ => ?_) fun h => absurd (by omega) h
    refine ⟨_, (leL hp).mem _ _ hm6, ⟨by omega, by omega, by omega⟩, ?_⟩
    intro b30 hu
    rw [Int.toNat_natCast nn]
    refine inL_i ?_
    refine hp.next (z := false) (by omega) (by omega) rfl hu fun L3 hp3 => ?_
    have hx : ((bl ++ [b30]).map (fun b => (⟨some ⟨b, 0, none⟩, nn, nn⟩ : Sl)) ++ List.replicate (nn - (bl ++ [b30]).length) ⟨none, 0, 0⟩)[bl.length]? = some ⟨some ⟨b30, 0, none⟩, nn, nn⟩ := by
      rw [List.getElem?_append_left (by simp), List.map_append, List.getElem?_append_right (by simp)]; simp
    refine hp3.pa.get hx fun a ha => ⟨⟨some ⟨b30, 0, none⟩, nn, nn⟩, ha, ?_⟩
    have hrl : ((idM nn).take bl.length).length = bl.length := by rw [List.length_take, idM_len]; omega
    have hb : (bl ++ [b30])[bl.length]? = some b30 := by simp
    have hr : ((idM nn).take bl.length ++ [List.replicate nn false])[bl.length]? = some (List.replicate nn false) := by
      rw [List.getElem?_append_right (by omega), hrl]; simp
    refine (hp3.rowPA (by omega) hb hr).set (i := bl.length) (by simp; omega) (x := true) rfl fun L4 hp4 ho4 => ?_
    have h4 := hp3.put (by omega) hb hr hp4 ho4
    have es : ((idM nn).take bl.length ++ [List.replicate nn false]).set bl.length ((List.replicate nn false).set bl.length true) = (idM nn).take (bl.length + 1) := by
      rw [idM_take (by omega), List.set_append_right _ _ (by omega), hrl, Nat.sub_self]; rfl
    rw [es] at h4
    rw [add_one (by omega)]
    exact ih (bl ++ [b30]) L4 (by simp) h4

/-- The steps that are in the table. -/
structure SI2 (bs : List Bs) (nl : List Bool) (nn : Nat) (rows : List (List Bool)) (P : Bs → Nat → Prop) : Prop extends Tab nn rows where
  snd : ∀ a b : Nat, a < nn → b < nn → cellB rows a b = true → Ste bs nl a b
  diag : ∀ a : Nat, a < nn → cellB rows a a = true
  done : ∀ (x : Bs) (i a c : Nat), P x i → x.1 = (a : Int) → StO nl x i (c : Int) → cellB rows a c = true

theorem chains_steps (hv : Valid g) (hq : DivQ L b g sg sr srl sn nl) {so : Sl} {bl : List Nat} (hson : so.n = (nN g).toNat)
    (hnext : ∀ (L2 : GHeap) (rows : List (List Bool)), Mat Value.bool L L2 bl so (nN g).toNat rows → SI2 (rulesG g).flatten nl (nN g).toNat rows (fun x _ => x ∈ (rulesG g).flatten) → normal_parts_chains.c23 K so ((so.n : Nat) : Int) 0 L2) :
    ∀ i, i ≤ (rulesG g).length → ∀ (L2 : GHeap) (rows : List (List Bool)), Mat Value.bool L L2 bl so (nN g).toNat rows → SI2 (rulesG g).flatten nl (nN g).toNat rows (fun x _ => x ∈ ((rulesG g).take i).flatten) →
      normal_parts_chains.c9 K (some ⟨b, 0, none⟩) so srl ((srl.n : Nat) : Int) ((i : Nat) : Int) L2 := by
  have hN := nN_le hv
  have hok := rulesG_ok hv
  have hlen := rulesG_len g
  have hmany := hv.many
  have hm8 := hq.mem 8 _ rfl
  have hnlen := hq.ok.len
  generalize hnn : (nN g).toNat = nn at *
  have leL : ∀ {L2 : GHeap} {rows : List (List Bool)}, Mat Value.bool L L2 bl so nn rows → LeM L L2 := fun hM => (le_of_off hM.unu hM.le).toLeM
  have hsn := hq.rules.n
  have hnull := hq.nulls
  have hnn2 := hnull.n
  refine down ?_ ?_
  · intro L2 rows hM hI
    rw [List.take_length] at hI
    apply normal_parts_chains.go9
    exact bcD (fun h => absurd h (by omega)) fun _ => hnext L2 rows hM hI
  · intro i hi ih L2 rows hM hI
    have hx := List.getElem?_eq_getElem hi
    have hrow := hok _ (List.getElem_mem hi)
    have hin : ∀ x ∈ (rulesG g)[i], x ∈ (rulesG g).flatten := fun x hx => List.mem_flatten.2 ⟨_, List.getElem_mem hi, hx⟩
    have htk : ((rulesG g).take (i + 1)).flatten = ((rulesG g).take i).flatten ++ (rulesG g)[i] := by rw [List.take_succ_eq_append_getElem hi, List.flatten_append, List.flatten_cons, List.flatten_nil, List.append_nil]
    rw [htk] at ih
    generalize (rulesG g)[i] = row at *
    generalize ((rulesG g).take i).flatten = pre at *
    apply normal_parts_chains.go9
    refine bcD (fun _ => ?_) fun h => absurd (by omega) h
    refine hq.rules.get hx fun a cs hKK hcc => ?_
    obtain ⟨sx, rfl, hsx⟩ := hKK
    have hsxn := hsx.n
    refine ⟨sx, reads_one ((leL hM).reads hcc), ?_⟩
    have inner : ∀ j, j ≤ row.length → ∀ (L4 : GHeap) (rows : List (List Bool)), Mat Value.bool L L4 bl so nn rows → SI2 (rulesG g).flatten nl nn rows (fun x _ => x ∈ pre ++ row.take j) →
        normal_parts_chains.c12 K (some ⟨b, 0, none⟩) so srl ((srl.n : Nat) : Int) ((i : Nat) : Int) sx ((sx.n : Nat) : Int) ((j : Nat) : Int) L4 := by
      refine down ?_ ?_
      · intro L4 rows hM hI
        rw [List.take_length] at hI
        apply normal_parts_chains.go12
        refine bcD (fun h => absurd h (by omega)) fun _ => ?_
        rw [add_one (by omega)]
        exact ih L4 rows hM hI
      · intro j hj ihj L4 rows hM hI
        have hxj := List.getElem?_eq_getElem hj
        have hb := hrow.2 _ (List.getElem_mem hj)
        have hxin := hin _ (List.getElem_mem hj)
        rw [List.take_succ_eq_append_getElem hj, ← List.append_assoc] at ihj
        generalize row[j] = x at *
        generalize pre ++ row.take j = pre2 at *
        obtain ⟨left, right⟩ := x
        obtain ⟨⟨l0, l1⟩, h2, hr⟩ := hb
        simp only at l0 l1 h2 hr
        obtain ⟨lf, rfl⟩ := Int.eq_ofNat_of_zero_le l0
        have hlf : lf < nn := by omega
        apply normal_parts_chains.go12
        refine bcD (fun _ => ?_) fun h => absurd (by omega) h
        refine hsx.get hxj fun a cs hKK hcc => ?_
        obtain ⟨sy, rfl, hsy⟩ := hKK
        have hsy : IsSl rI L sy right := hsy
        have hsyn := hsy.n
        refine ⟨_, sy, (leL hM).reads hcc, ?_⟩
        have third : ∀ m, m ≤ right.length → ∀ (L5 : GHeap) (rows : List (List Bool)), Mat Value.bool L L5 bl so nn rows → SI2 (rulesG g).flatten nl nn rows (fun x i => x ∈ pre2 ∨ (x = (((lf : Nat) : Int), right) ∧ i < m)) →
            normal_parts_chains.c15 K (some ⟨b, 0, none⟩) so srl ((srl.n : Nat) : Int) ((i : Nat) : Int) sx ((sx.n : Nat) : Int) ((j : Nat) : Int) sy ((sy.n : Nat) : Int) ((m : Nat) : Int) ((lf : Nat) : Int) sy L5 := by
          refine down ?_ ?_
          · intro L5 rows hM hI
            apply normal_parts_chains.go15
            refine bcD (fun h => absurd h (by omega)) fun _ => ?_
            rw [add_one (by omega)]
            refine ihj L5 rows hM ⟨hI.toTab, hI.snd, hI.diag, fun x i a c hx ha hst => hI.done x i a c ?_ ha hst⟩
            rcases List.mem_append.1 hx with hx | hx
            · exact .inl hx
            · rw [List.mem_singleton] at hx
              subst hx
              exact .inr ⟨rfl, (List.getElem?_eq_some_iff.1 hst.1).1⟩
          · intro m hm ihm L5 rows hM hI
            have hxm := List.getElem?_eq_getElem hm
            have hrm := hr _ (List.getElem_mem hm)
            generalize right[m] = v at *
            obtain ⟨vn, rfl⟩ := Int.eq_ofNat_of_zero_le hrm.1
            have hvn : vn < nn := by omega
            have next : ∀ (L6 : GHeap) (rows : List (List Bool)), Mat Value.bool L L6 bl so nn rows → SI2 (rulesG g).flatten nl nn rows (fun x i => x ∈ pre2 ∨ (x = (((lf : Nat) : Int), right) ∧ i < m + 1)) →
                normal_parts_chains.c19 K (some ⟨b, 0, none⟩) so srl ((srl.n : Nat) : Int) ((i : Nat) : Int) sx ((sx.n : Nat) : Int) ((j : Nat) : Int) sy ((sy.n : Nat) : Int) ((m : Nat) : Int) ((lf : Nat) : Int) sy L6 := by
              intro L6 rows hM hI
              apply normal_parts_chains.go19
              unfold normal_parts_chains.t19
              rw [add_one (by omega)]
              exact ihm L6 rows hM hI
            have put : StO nl (((lf : Nat) : Int), right) m ((vn : Nat) : Int) → normal_parts_chains.c18 K (some ⟨b, 0, none⟩) so ((vn : Nat) : Int) srl ((srl.n : Nat) : Int) ((i : Nat) : Int) sx ((sx.n : Nat) : Int) ((j : Nat) : Int) sy ((sy.n : Nat) : Int) ((m : Nat) : Int) ((lf : Nat) : Int) sy L5 := by
              intro hst
              obtain ⟨rw1, v1, r1, r2, r3, r4⟩ := hI.toTab.get hlf hvn
              apply normal_parts_chains.go18
              refine hM.get r1 fun a c hbc hc => ⟨⟨some ⟨c, 0, none⟩, nn, nn⟩, hc, ?_⟩
              refine PA.setI (hM.pa hbc r1 (hM.unu c (List.mem_of_getElem? hbc))) (r := ((vn : Nat) : Int)) (by omega) (by rw [Int.toNat_natCast]; omega) (x := true) rfl fun L6 hp6 ho6 => ?_
              rw [Int.toNat_natCast] at hp6
              have hcs := cellB_set2 r1 (j := vn) (by omega) true
              refine next L6 _ (hM.setRow hbc r1 hp6 ho6) ⟨hI.toTab.set r1 true, fun p q hp hq' e => ?_, fun p hp => ?_, fun x k a c hx ha hst' => ?_⟩
              · rw [hcs] at e
                split at e
                · rename_i h'
                  obtain ⟨rfl, rfl⟩ := h'
                  exact .inr ⟨_, hxin, rfl, m, hst⟩
                · exact hI.snd p q hp hq' e
              · rw [hcs]
                split
                · rfl
                · exact hI.diag p hp
              · rw [hcs]
                split
                · rfl
                · rename_i hne
                  rcases hx with hx | ⟨rfl, hk⟩
                  · exact hI.done x k a c (.inl hx) ha hst'
                  · rcases Nat.lt_or_ge k m with h' | h'
                    · exact hI.done _ k a c (.inr ⟨rfl, h'⟩) ha hst'
                    · exfalso
                      have : k = m := by omega
                      subst this
                      have h1 := hst'.1
                      have h2 := hst.1
                      rw [h2] at h1
                      have h1 := Option.some.inj h1
                      have ha : ((lf : Nat) : Int) = (a : Int) := ha
                      exact hne ⟨by omega, by omega⟩
            apply normal_parts_chains.go15
            refine bcD (fun _ => ?_) fun h => absurd (by omega) h
            refine (hsy.mono (leL hM)).get hxm fun a cs hKK hcc => ?_
            obtain rfl := hKK
            refine ⟨_, reads_one hcc, bcE (fun h1 => put ⟨hxm, .inl (by show right.length = 1; omega)⟩) fun h1 => ?_⟩
            have hl2 : right.length = 2 := by omega
            have e1 : w64 (1 - ((m : Nat) : Int)) = ((1 - m : Nat) : Int) := by rw [w64_in (by omega) (by omega)]; omega
            have hxo := List.getElem?_eq_getElem (l := right) (i := 1 - m) (by omega)
            have hro := hr _ (List.getElem_mem (l := right) (n := 1 - m) (by omega))
            generalize right[1 - m] = u at *
            obtain ⟨w, hw, hwi⟩ := isN_get (nl := nl) hro.1 (by rw [hnlen]; exact hro.2)
            obtain ⟨un, rfl⟩ := Int.eq_ofNat_of_zero_le hro.1
            rw [Int.toNat_natCast] at hw
            refine ⟨sn, (leL hM).mem _ _ hm8, ?_⟩
            rw [e1]
            refine (hsy.mono (leL hM)).get hxo fun a cs hKK hcc => ?_
            obtain rfl := hKK
            refine ⟨_, reads_one hcc, (hnull.mono (leL hM)).get hw fun a cs hKK hcc => ?_⟩
            obtain rfl := hKK
            refine ⟨w, reads_one hcc, bcI (fun hwt => put ⟨hxm, .inr ⟨_, hxo, hwi.2 hwt⟩⟩) fun hwf => ?_⟩
            refine next L5 rows hM ⟨hI.toTab, hI.snd, hI.diag, fun x k a c hx ha hst' => ?_⟩
            rcases hx with hx | ⟨rfl, hk⟩
            · exact hI.done x k a c (.inl hx) ha hst'
            · rcases Nat.lt_or_ge k m with h' | h'
              · exact hI.done _ k a c (.inr ⟨rfl, h'⟩) ha hst'
              · exfalso
                have : k = m := by omega
                subst this
                rcases hst'.2 with h2 | ⟨q, hq1, hq2⟩
                · have h2 : right.length = 1 := h2
                  omega
                · have hq1 : right[1 - k]? = some q := hq1
                  rw [hxo] at hq1
                  cases hq1
                  rw [hwi.1 hq2] at hwf; cases hwf
        exact third 0 (Nat.zero_le _) L4 rows hM ⟨hI.toTab, hI.snd, hI.diag, fun x i a c hx ha hst => hI.done x i a c (hx.resolve_right fun h => absurd h.2 (Nat.not_lt_zero _)) ha hst⟩
    exact inner 0 (Nat.zero_le _) L2 rows hM ⟨hI.toTab, hI.snd, hI.diag, fun x i a c hx ha hst => hI.done x i a c (by simpa using hx) ha hst⟩

theorem chains_spec (hv : Valid g) (hq : DivQ L b g sg sr srl sn nl) :
    ACalls PP normal_parts_chains.id [.pointer (some ⟨b, 0, none⟩)] L fun v L' => Le L L' ∧ ∃ (so : Sl) (rows : List (List Bool)), v = .slice so.a so.n so.c ∧ IsSl (rS rB) L' so rows ∧ ChOk (Ste (rulesG g).flatten nl) (nN g).toNat rows := by
  have hN := nN_le hv
  have hm6 : L.mem ((⟨b, 0, none⟩ : Addr).add 6) = some (.int .i64 (nN g)) := hq.mem 6 _ rfl
  apply normal_parts_chains.go
  refine ⟨_, hm6, ⟨by omega, by omega, by omega⟩, ?_⟩
  intro b18 hu
  refine inL_i ?_
  rw [Nat.mul_one]
  refine chains_make hv hq ?_ 0 (Nat.zero_le _) [] _ rfl (MakeR.start hu (by omega))
  intro L2 bl hM
  refine chains_steps hv hq (bl := bl) rfl ?_ 0 (Nat.zero_le _) L2 _ hM ⟨idM_tab _, fun p q hp hq e => ?_, fun p hp => ?_, fun x i a c hx _ _ => by simp at hx⟩
  · intro L3 rows hM3 hI
    refine chains_fw (E := Ste (rulesG g).flatten nl) (nn := (nN g).toNat) (by omega) ?_ 0 (Nat.zero_le _) L3 rows hM3 ⟨hI.toTab, fun p q hp hq e => .one (hI.snd p q hp hq e), fun p q hp hq h => ?_, fun p q hp hq h => by omega⟩
    · intro L4 rows4 hM4 hok
      exact ⟨le_of_off hM4.unu hM4.le, _, rows4, rfl, hM4.isSl rfl fun _ _ => rfl, hok⟩
    · have h := h.zero
      rcases h with h | ⟨x, hx, hx1, i, hst⟩
      · have : p = q := by omega
        subst this
        exact hI.diag p hp
      · exact hI.done x i p q hx hx1 hst
  · rw [idM_cell hp hq, decide_eq_true_iff] at e
    exact .inl (by omega)
  · rw [idM_cell hp hp]; simp
end
end Go.Proofs.YtcnkbjipogngaaaDoor.NormC
