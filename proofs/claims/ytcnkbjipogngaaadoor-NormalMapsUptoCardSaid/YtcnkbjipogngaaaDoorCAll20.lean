/- Contracts of the program's functions. -/
import Derived.Test.YtcnkbjipogngaaaDoorCAll19
import Derived.Test.YtcnkbjipogngaaaDoorCAll17
set_option linter.all false
namespace Go.Proofs.YtcnkbjipogngaaaDoor.NormT
open Go Go.Proofs.YtcnkbjipogngaaaDoor.GH

variable {g : Gram} {b : Nat} {sg sr srl sn : Sl} {nl : List Bool} {R : Nat}

abbrev mkT : TypeId := mapT_map_int_Lapi_Tree.k
def EmpPost (g : Gram) (R : Nat) (L : GHeap) (n : Int) (v : Value) (L' : GHeap) : Prop :=
  Le L L' ∧ ∃ (so : Sl) (ts : List Tree), v = .slice so.a so.n so.c ∧ Own L rTree L' so ts ∧ Dv g n ts none ∧ nodesL ts ≤ (R - 1) * Sz R g.nons.toNat ∧ ts.length ≤ R

def Psz (g : Gram) (f0 f : Value → Option Value) (pre : List Bs) : Prop :=
  cntM f0 (nN g).toNat < cntM f (nN g).toNat ∨ (f = f0 ∧ ∀ x ∈ pre, (∀ m ∈ x.2, (f (kyN m)).isSome = true) → (f (kyN x.1)).isSome = true)

theorem Psz.more {f0 f : Value → Option Value} {pre : List Bs} {x : Bs} (h : Psz g f0 f pre) (hx : (∀ m ∈ x.2, (f (kyN m)).isSome = true) → (f (kyN x.1)).isSome = true) : Psz g f0 f (pre ++ [x]) := by
  rcases h with h | ⟨h1, h2⟩
  · exact .inl h
  · refine .inr ⟨h1, fun y hy => ?_⟩
    rcases List.mem_append.1 hy with hy | hy
    · exact h2 y hy
    · rw [List.mem_singleton.1 hy]; exact hx

theorem getUp {α : Type} {R : Rp α} {L L' : GHeap} {s : Sl} {xs : List α} (h : IsSl R L s xs) (hl : LeM L L') {i : Nat} {x : α} (hx : xs[i]? = some x) {k : Addr → Prop}
    (hk : ∀ a cs, R.K L cs x → L'.reads (a.add (i * R.sz)) 0 cs → k a) : ptrK s.a fun a => (0 ≤ (i : Int) ∧ (i : Int) < ((s.n : Nat) : Int)) ∧ k a := by
  obtain ⟨a, cs, ha, hK, hr⟩ := h.at_ i x hx
  rw [ha]
  have hlt : i < xs.length := (List.getElem?_eq_some_iff.1 hx).1
  exact ⟨⟨by omega, by rw [h.n]; omega⟩, hk a cs hK (hl.reads hr)⟩

inductive F2 {α β : Type} (P : α → β → Prop) : List α → List β → Prop
  | nil : F2 P [] []
  | cons {x : α} {y : β} {xs : List α} {ys : List β} : P x y → F2 P xs ys → F2 P (x :: xs) (y :: ys)

def Kd (g : Gram) (B : Nat) (ms : List Int) (ks : List Tree) : Prop := ∃ tss : List (List Tree), F2 (fun m ts => Dv g m ts none ∧ ∀ t ∈ ts, t.nodes ≤ B) ms tss ∧ ks = tss.flatten

theorem Kd.snoc {B : Nat} {ms : List Int} {ks ts : List Tree} {m : Int} (h : Kd g B ms ks) (hd : Dv g m ts none) (hb : ∀ t ∈ ts, t.nodes ≤ B) : Kd g B (ms ++ [m]) (ks ++ ts) := by
  obtain ⟨tss, h1, rfl⟩ := h
  refine ⟨tss ++ [ts], ?_, by simp⟩
  induction h1 with
  | nil => exact .cons ⟨hd, hb⟩ .nil
  | cons h _ ih => exact .cons h ih

theorem Kd.bd {B : Nat} {ms : List Int} {ks : List Tree} (h : Kd g B ms ks) : ∀ t ∈ ks, t.nodes ≤ B := by
  obtain ⟨tss, h1, rfl⟩ := h
  induction h1 with
  | nil => intro t ht; simp at ht
  | cons h _ ih =>
    intro t ht
    rw [List.flatten_cons] at ht
    rcases List.mem_append.1 ht with ht | ht
    · exact h.2 t ht
    · exact ih t ht

theorem Kd.dv {B : Nat} {x : Bs} {i k : Nat} {ks : List Tree} (h : Kd g B x.2 ks) (hl : x.2.length ≤ 2) (hp : PB g i k x) : Dv g x.1 (clo i k ks) none := by
  obtain ⟨m, r⟩ := x
  obtain ⟨tss, h1, rfl⟩ := h
  cases h1 with
  | nil => exact .nil i k m hp
  | cons h h1 =>
    cases h1 with
    | nil =>
      have := Dv.one i k m _ _ _ hp h.1
      simpa [stepD] using this
    | cons h' h1 =>
      cases h1 with
      | nil =>
        have := Dv.two i k m _ _ _ _ _ _ hp h.1 h'.1
        simpa [stepD] using this
      | cons => simp at hl

theorem empty_spec (hv : Valid g) (hR : ∀ r ∈ g.rules, r.right.length ≤ R) (h2 : 2 ≤ R) (h4 : R ≤ 4) {L : GHeap} {n : Int} (hq : PQ L b g sg sr srl sn nl) (hn : DerE (rulesG g).flatten n) (hnr : 0 ≤ n ∧ n < nN g) :
    ACalls PP normal_parts_empty.id [.pointer (some ⟨b, 0, none⟩), .int .i64 n] L (EmpPost g R L n) := by
  have hN := nN_le hv
  have hNn : (((nN g).toNat : Nat) : Int) = nN g := by omega
  have hnons := hv.nons
  have hok := rulesG_ok hv
  have hgl := rulesG_len g
  have hmany := hv.many
  have hkey : ∀ m : Int, 0 ≤ m → m < nN g → ∃ l, keyOf PP mkT (kyN m) = some l := fun m h0 h1 => kyN_key (by kernel_rfl) ⟨h0, by omega⟩
  apply normal_parts_empty.go
  intro r hr hr0
  generalize hK : EmpPost g R L n = K
  have outer : ∀ u, ∀ (L1 : GHeap) (f0 : Value → Option Value), (nN g).toNat - cntM f0 (nN g).toNat = u → MM mkT L L1 r f0 → EZ g L1.nob R f0 → normal_parts_empty.c2 K (some ⟨b, 0, none⟩) n (some r) L1 := by
    intro u
    induction u using Nat.strongRecOn with
    | _ u ihu =>
    intro L1 f0 hu hM1 hE1
    have hc0 := cntM_le (f := f0) (n := (nN g).toNat)
    apply normal_parts_empty.go2
    refine ⟨srl, (hq.up hM1.le.toLeM).mem 7 _ rfl, ?_⟩
    have hsrl := hq.rules.n
    have rls : ∀ i, i ≤ (rulesG g).length → ∀ (L2 : GHeap) (f : Value → Option Value), MM mkT L L2 r f → EZ g L2.nob R f → Psz g f0 f ((rulesG g).take i).flatten →
        normal_parts_empty.c3 K (some ⟨b, 0, none⟩) n (some r) srl ((srl.n : Nat) : Int) ((i : Nat) : Int) L2 := by
      refine down ?_ ?_
      · intro L2 f hM2 hE2 hP
        rw [List.take_length] at hP
        apply normal_parts_empty.go3
        refine bcD (fun h => absurd h (by rw [hsrl]; omega)) fun _ => ?_
        cases hf : f (kyN n) with
        | some v =>
          obtain ⟨s, ts, rfl, hs, hd, hb⟩ := hE2 n v hf
          refine ⟨s, true, look_of mapT_map_int_Lapi_Tree.ty (hkey n hnr.1 hnr.2) hM2.map (by rw [hf]; rfl) (by rw [hf]; rfl), bcT rfl ?_⟩
          have hlen := dv_len hv hR h2 hd
          refine (CloneT_spec (hs.mono nob_le) (by omega)).mono ?_
          rintro v L3 ⟨so, rfl, hle3, ho⟩
          refine ⟨so, rfl, ?_⟩
          rw [← hK]
          refine ⟨hM2.le.trans hle3, so, ts, rfl, ho.back hM2.le.toLeM, hd, ?_, by omega⟩
          have hnd := nodes_bd hb
          have hc := cntM_le (f := f) (n := g.nons.toNat)
          exact Nat.le_trans hnd (Nat.mul_le_mul hlen (Sz_le hc))
        | none =>
          refine ⟨⟨none, 0, 0⟩, false, look_of mapT_map_int_Lapi_Tree.ty (hkey n hnr.1 hnr.2) hM2.map (by rw [hf]; rfl) (by rw [hf]; rfl), bcF rfl ?_⟩
          have hc := cntM_le (f := f) (n := (nN g).toNat)
          rcases hP with hP | ⟨_, hP⟩
          · exact ihu _ (by omega) L2 f rfl hM2 hE2
          · have := der_made hP hn
            rw [hf] at this; cases this
      · intro i hi ih L2 f hM2 hE2 hP
        have hgi := List.getElem?_eq_getElem hi
        have hl3 := hok _ (List.getElem_mem hi)
        have hpl : ∀ k x, (rulesG g)[i][k]? = some x → PB g i k x := fun k x hx => ⟨_, hgi, hx⟩
        rw [List.take_succ_eq_append_getElem hi, List.flatten_append] at ih
        simp only [List.flatten_cons, List.flatten_nil, List.append_nil] at ih
        generalize (rulesG g)[i] = l at *
        have hq2 := hq.up hM2.le.toLeM
        apply normal_parts_empty.go3
        refine bcD (fun _ => ?_) fun h => absurd (by rw [hsrl]; omega) h
        refine getUp hq.rules hM2.le.toLeM hgi fun a cs hK1 hc => ?_
        obtain ⟨sl, rfl, hsl⟩ := hK1
        have r0 := hc.1
        rw [add_zero] at r0
        refine ⟨sl, r0, ?_⟩
        have hsln := hsl.n
        have bss : ∀ k, k ≤ l.length → ∀ (L3 : GHeap) (f : Value → Option Value), MM mkT L L3 r f → EZ g L3.nob R f → Psz g f0 f (((rulesG g).take i).flatten ++ l.take k) →
            normal_parts_empty.c6 K (some ⟨b, 0, none⟩) n (some r) ((i : Nat) : Int) srl ((srl.n : Nat) : Int) ((i : Nat) : Int) sl ((sl.n : Nat) : Int) ((k : Nat) : Int) L3 := by
          refine down ?_ ?_
          · intro L3 f hM3 hE3 hP3
            rw [List.take_length] at hP3
            apply normal_parts_empty.go6
            refine bcD (fun h => absurd h (by rw [hsln]; omega)) fun _ => ?_
            rw [add_one (by omega)]
            exact ih L3 f hM3 hE3 hP3
          · intro k hk ihk L3 f hM3 hE3 hP3
            have hxk := List.getElem?_eq_getElem hk
            have hx := hl3.2 _ (List.getElem_mem hk)
            have hpb := hpl k _ hxk
            rw [List.take_succ_eq_append_getElem hk, ← List.append_assoc] at ihk
            have hmem := pb_mem hpb
            generalize l[k] = x at *
            obtain ⟨hx1, hx2, hx3⟩ := hx
            rw [hNn] at hx1 hx3
            -- the next one
            have nxt : ∀ (L4 : GHeap) (f' : Value → Option Value), MM mkT L L4 r f' → EZ g L4.nob R f' → Psz g f0 f' (((rulesG g).take i).flatten ++ l.take k ++ [x]) →
                normal_parts_empty.c21 K (some ⟨b, 0, none⟩) n (some r) ((i : Nat) : Int) srl ((srl.n : Nat) : Int) ((i : Nat) : Int) sl ((sl.n : Nat) : Int) ((k : Nat) : Int) L4 := by
              intro L4 f' h1 h2 h3
              apply normal_parts_empty.go21
              unfold normal_parts_empty.t21
              rw [add_one (by omega)]
              exact ihk L4 f' h1 h2 h3
            apply normal_parts_empty.go6
            refine bcD (fun _ => ?_) fun h => absurd (by rw [hsln]; omega) h
            refine getUp hsl hM3.le.toLeM hxk fun a2 cs2 hK2 hc2 => ?_
            obtain ⟨sx, rfl, hsx⟩ := hK2
            refine ⟨_, sx, hc2, ?_⟩
            cases hf : f (kyN x.1) with
            | some v =>
              obtain ⟨s, ts, rfl, _⟩ := hE3 x.1 v hf
              refine ⟨s, true, look_of mapT_map_int_Lapi_Tree.ty (hkey x.1 hx1.1 hx1.2) hM3.map (by rw [hf]; rfl) (by rw [hf]; rfl), bcT rfl ?_⟩
              exact nxt L3 f hM3 hE3 (hP3.more fun _ => by rw [hf]; rfl)
            | none =>
              refine ⟨⟨none, 0, 0⟩, false, look_of mapT_map_int_Lapi_Tree.ty (hkey x.1 hx1.1 hx1.2) hM3.map (by rw [hf]; rfl) (by rw [hf]; rfl), bcF rfl ?_⟩
              have hsxn := hsx.n
              have kid : ∀ j, j ≤ x.2.length → ∀ (L4 : GHeap) (sk : Sl) (ks : List Tree) (all : Bool), Le L3 L4 → Own L3 rTree L4 sk ks → ks.length ≤ j * 4 → ((∀ m ∈ x.2.take j, (f (kyN m)).isSome = true) → all = true) → (all = true → Kd g (Sz R (cntM f g.nons.toNat)) (x.2.take j) ks) →
                  normal_parts_empty.c13 K (some ⟨b, 0, none⟩) n (some r) ((i : Nat) : Int) ((k : Nat) : Int) sk all srl ((srl.n : Nat) : Int) ((i : Nat) : Int) sl ((sl.n : Nat) : Int) ((k : Nat) : Int) sx ((sx.n : Nat) : Int) ((j : Nat) : Int) x.1 sx L4 := by
                refine down ?_ ?_
                · intro L4 sk ks all hle4 ho hkl ha hkd
                  rw [List.take_length] at ha hkd
                  have hM4 := hM3.up hle4
                  have hE4 := hE3.mono hle4.nob.toLeM
                  apply normal_parts_empty.go13
                  refine bcD (fun h => absurd h (by rw [hsxn]; omega)) fun _ => ?_
                  cases all with
                  | false =>
                    refine bcF rfl (nxt L4 f hM4 hE4 (hP3.more fun h => ?_))
                    cases ha h
                  | true =>
                    refine bcT rfl ((close_spec ho.sl).mono ?_)
                    rintro v L5 ⟨hle5, so, rfl, hso⟩
                    refine ⟨so, rfl, ?_⟩
                    have hM5 := hM4.up hle5
                    have hE5 := hE4.mono hle5.nob.toLeM
                    obtain ⟨o, ho1, ho2⟩ := hM5.ob
                    refine upd_of mapT_map_int_Lapi_Tree.ty (hkey x.1 hx1.1 hx1.2) hM5.n0 ho1 ho2 fun o' ho' => ?_
                    have hkd := hkd rfl
                    have hdv := hkd.dv hx2 hpb
                    refine nxt _ _ (hM5.upd ho') (hE5.put hf hx1.1 (nobTree hso) hdv (fun t ht => ?_) (by omega)) (.inl ?_)
                    · have hle := hkd.bd
                      have hk0 : k = 0 → x.1 < g.nons := by
                        intro h0
                        obtain ⟨hi', ⟨_, _, e⟩ | ⟨_, _, e⟩ | ⟨_, e⟩⟩ := pb_cases hpb
                        · rw [e]; exact (hv.ok _ (List.getElem_mem hi')).1.left.2
                        · rw [e]; exact (hv.ok _ (List.getElem_mem hi')).1.left.2
                        · rw [e, if_pos h0]; exact (hv.ok _ (List.getElem_mem hi')).1.left.2
                      have hlen := dv_kids hv hR h2 hk0 hdv
                      unfold clo at ht
                      split at ht
                      · exact Nat.le_trans (hle t ht) (Sz_le (by omega))
                      · rename_i h0
                        rw [List.mem_singleton.1 ht, if_pos (hk0 (by omega))]
                        have h1 := nodes_bd hle
                        have h2' := Nat.mul_le_mul_right (Sz R (cntM f g.nons.toNat)) hlen
                        have h3 := Nat.le_trans h1 h2'
                        have e : Sz R (cntM f g.nons.toNat + 1) = 1 + R * Sz R (cntM f g.nons.toNat) := rfl
                        rw [e]
                        simp only [Tree.nodes]
                        rw [Nat.add_comm 1]
                        exact Nat.succ_le_succ h3
                    · have hc := cntM_put (v := .slice so.a so.n so.c) hf hx1.1 (nN g).toNat
                      rw [if_pos (by omega)] at hc
                      have : cntM f0 (nN g).toNat ≤ cntM f (nN g).toNat := by
                        rcases hP3 with h | ⟨h, _⟩
                        · omega
                        · rw [h]; exact Nat.le_refl _
                      show cntM f0 (nN g).toNat < cntM (fput f (kyN x.1) (.slice so.a so.n so.c)) (nN g).toNat
                      rw [hc]
                      omega
                · intro j hj ihj L4 sk ks all hle4 ho hkl ha hkd
                  have hmj := List.getElem?_eq_getElem hj
                  have hm := hx3 _ (List.getElem_mem hj)
                  rw [List.take_succ_eq_append_getElem hj] at ihj
                  generalize x.2[j] = m at *
                  have hM4 := hM3.up hle4
                  have hE4 := hE3.mono hle4.nob.toLeM
                  apply normal_parts_empty.go13
                  refine bcD (fun _ => ?_) fun h => absurd (by rw [hsxn]; omega) h
                  refine getUp hsx hM4.le.toLeM hmj fun a3 cs3 hK3 hc3 => ?_
                  obtain rfl := hK3
                  have r3 := hc3.1
                  rw [add_zero] at r3
                  refine ⟨_, r3, ?_⟩
                  have c17 : ∀ (more : Sl) (ys : List Tree) (all' : Bool), IsSl rTree L4 more ys → ys.length ≤ 4 → ((∀ q ∈ x.2.take j ++ [m], (f (kyN q)).isSome = true) → all' = true) → (all' = true → Kd g (Sz R (cntM f g.nons.toNat)) (x.2.take j ++ [m]) (ks ++ ys)) →
                      normal_parts_empty.c17 K (some ⟨b, 0, none⟩) n (some r) ((i : Nat) : Int) ((k : Nat) : Int) sk all' more srl ((srl.n : Nat) : Int) ((i : Nat) : Int) sl ((sl.n : Nat) : Int) ((k : Nat) : Int) sx ((sx.n : Nat) : Int) ((j : Nat) : Int) x.1 sx L4 := by
                    intro more ys all' hsm hyl ha' hkd'
                    apply normal_parts_empty.go17
                    obtain ⟨cc, hcc, hrc⟩ := hsm.cells
                    refine ⟨cc, ⟨hrc, hcc.one⟩, ?_⟩
                    refine Own.append (R := rTree) (bytes := 40) (m := more.n) (ys := ys) ho hle4 hcc hsm.n.symm (.inl (by rw [hsm.n]; omega)) fun s' L' g1 g2 g3 _ _ => ?_
                    apply normal_parts_empty.go18
                    unfold normal_parts_empty.t18
                    rw [add_one (by omega)]
                    exact ihj L' s' _ all' g1 g3 (by rw [List.length_append]; omega) ha' hkd'
                  cases hfm : f (kyN m) with
                  | some v =>
                    obtain ⟨s, ts, rfl, hs, hd, hb⟩ := hE4 m v hfm
                    refine ⟨s, true, look_of mapT_map_int_Lapi_Tree.ty (hkey m hm.1 hm.2) hM4.map (by rw [hfm]; rfl) (by rw [hfm]; rfl), ?_⟩
                    have hlen := dv_len hv hR h2 hd
                    refine bcI (fun e => ?_) fun e => ?_
                    · subst e
                      exact c17 s ts true (hs.mono nob_le) (by omega) (fun _ => rfl) fun _ => (hkd rfl).snoc hd hb
                    · subst e
                      exact c17 s ts false (hs.mono nob_le) (by omega) (fun h => absurd (ha fun q hq => h q (List.mem_append.2 (.inl hq))) (by simp)) fun h => by cases h
                  | none =>
                    refine ⟨⟨none, 0, 0⟩, false, look_of mapT_map_int_Lapi_Tree.ty (hkey m hm.1 hm.2) hM4.map (by rw [hfm]; rfl) (by rw [hfm]; rfl), ?_⟩
                    have hno : ¬ ∀ q ∈ x.2.take j ++ [m], (f (kyN q)).isSome = true := fun h => by
                      have := h m (List.mem_append.2 (.inr (List.mem_singleton.2 rfl)))
                      rw [hfm] at this; cases this
                    have := c17 ⟨none, 0, 0⟩ [] false (.nil _ _ _ _) (by simp) (fun h => absurd h hno) fun h => by cases h
                    exact bcI (fun _ => this) fun _ => this
              exact kid 0 (Nat.zero_le _) L3 ⟨none, 0, 0⟩ [] true (.refl _) (.nil _ _ _) (by simp) (fun _ => rfl) fun _ => ⟨[], .nil, rfl⟩
        exact bss 0 (Nat.zero_le _) L2 f hM2 hE2 (by simpa using hP)
    exact rls 0 (Nat.zero_le _) L1 f0 hM1 hE1 (.inr ⟨rfl, fun x hx => by simp at hx⟩)
  exact outer _ _ _ rfl (MM.new hr hr0) fun m v e => by cases e
end Go.Proofs.YtcnkbjipogngaaaDoor.NormT

namespace Go.Proofs.YtcnkbjipogngaaaDoor.NormT
open Go Go.Proofs.YtcnkbjipogngaaaDoor.GH

variable {g : Gram} {b : Nat} {sg sr srl sn : Sl} {nl : List Bool} {R : Nat}

theorem null_at {L : GHeap} (hq : PQ L b g sg sr srl sn nl) {m : Int} (hm : 0 ≤ m ∧ m < nN g) (hN : 0 ≤ nN g) : ∃ w, nl[m.toNat]? = some w ∧ (w = true ↔ DerE (rulesG g).flatten m) := by
  obtain ⟨w, h1, h2⟩ := isN_get (nl := nl) hm.1 (by rw [hq.ok.len]; omega)
  exact ⟨w, h1, by rw [← h2, hq.ok.iff]⟩

theorem fits_spec (hv : Valid g) {L : GHeap} (hq : PQ L b g sg sr srl sn nl) {x : Tree} {sx : Sl} (hx : IsSl rTree L sx x.kids) {y : Bs} {sy : Sl} (hy : IsSl rI L sy y.2) (hlen : y.2.length ≤ 2) (hr : ∀ m ∈ y.2, 0 ≤ m ∧ m < nN g)
    (hk : x.kids.length = 2 ∨ (x.kids = [] ∧ 0 ≤ x.term ∧ x.term < g.terms)) :
    ACalls PP normal_parts_fits.id [.pointer (some ⟨b, 0, none⟩), .agg #[.int .i64 y.1, .slice sy.a sy.n sy.c], treeV x sx] L fun v L' => L' = L ∧ ∃ w : Bool, v = .bool w ∧ (w = true ↔ fitsB g y x) := by
  have hN := nN_le hv
  have ht := hv.terms
  apply normal_parts_fits.go
  rcases hk with hk | ⟨hk, ht0, ht1⟩
  · refine bcE (fun _ => bcE (fun h2 => ?_) fun h2 => ?_) fun h => absurd (by rw [hx.n]; omega) h
    · have h2 : y.2.length = 2 := by rw [hy.n] at h2; omega
      obtain ⟨a, c, he⟩ : ∃ a c, y.2 = [a, c] := by
        match hh : y.2, h2 with
        | [a, c], _ => exact ⟨a, c, rfl⟩
      obtain ⟨l, r, hke⟩ : ∃ l r, x.kids = [l, r] := by
        match hh : x.kids, hk with
        | [l, r], _ => exact ⟨l, r, rfl⟩
      rw [he] at hy
      rw [hke] at hx
      refine hy.get (i := 0) (x := a) rfl fun a1 cs1 hK1 hc1 => ?_
      obtain rfl := hK1
      have r1 := hc1.1
      rw [add_zero] at r1
      refine ⟨_, r1, hx.get (i := 0) (x := l) rfl fun a2 cs2 hK2 hc2 => ?_⟩
      obtain ⟨s2, rfl, _⟩ := TK.open hK2
      have r2 := hc2.1
      rw [add_zero] at r2
      refine ⟨_, r2, bcE (fun e1 => ?_) fun e1 => ⟨rfl, false, rfl, ?_⟩⟩
      · refine hy.get (i := 1) (x := c) rfl fun a3 cs3 hK3 hc3 => ?_
        obtain rfl := hK3
        have r3 := hc3.1
        rw [add_zero] at r3
        refine ⟨_, r3, hx.get (i := 1) (x := r) rfl fun a4 cs4 hK4 hc4 => ?_⟩
        obtain ⟨s4, rfl, _⟩ := TK.open hK4
        have r4 := hc4.1
        rw [add_zero] at r4
        refine ⟨_, r4, rfl, _, rfl, ?_⟩
        rw [beq_iff_eq]
        unfold fitsB
        rw [hke, he]
        constructor
        · exact fun e => .inl ⟨l, r, rfl, by rw [e1, e]⟩
        · rintro (⟨l', r', h1, h2⟩ | ⟨h1, _⟩)
          · injection h1 with h1 h3
            injection h3 with h3 _
            injection h2 with _ h4
            injection h4 with h4 _
            rw [h4, h3]
          · cases h1
      · refine ⟨fun h => (by cases h), ?_⟩
        unfold fitsB
        rw [hke, he]
        rintro (⟨l', r', h1, h2⟩ | ⟨h1, _⟩)
        · injection h1 with h1 h3
          injection h2 with h2 _
          exact absurd (by rw [h2, h1]) e1
        · cases h1
    · refine ⟨rfl, false, rfl, ⟨fun h => (by cases h), ?_⟩⟩
      unfold fitsB
      rintro (⟨l', r', h1, h3⟩ | ⟨h1, _⟩)
      · exact absurd (by rw [hy.n, h3]; rfl) h2
      · rw [h1] at hk; cases hk
  · have hx0 : sx.n = 0 := by rw [hx.n, hk]; rfl
    refine bcE (fun h => absurd h (by rw [hx0]; decide)) fun _ => ?_
    have hw : w64 (nT g + x.term) = nT g + x.term := w64_in (by omega) (by omega)
    have key : ∀ j, j ≤ y.2.length → (∀ i, i < j → ¬ ldAt g y i (nT g + x.term)) → normal_parts_fits.c4 (fun v L' => L' = L ∧ ∃ w : Bool, v = .bool w ∧ (w = true ↔ fitsB g y x)) (some ⟨b, 0, none⟩) sy ((sy.n : Nat) : Int) ((j : Nat) : Int) y.1 sy x.rule x.term sx L := by
      refine down ?_ ?_
      · intro hno
        apply normal_parts_fits.go4
        refine bcD (fun h => absurd h (by rw [hy.n]; omega)) fun _ => ⟨rfl, false, rfl, ⟨fun h => (by cases h), ?_⟩⟩
        unfold fitsB
        rintro (⟨l, r, h1, _⟩ | ⟨_, h1⟩)
        · rw [hk] at h1; cases h1
        · obtain ⟨i, hi, h1⟩ := (leads_at hlen).1 h1
          exact absurd h1 (hno i hi)
      · intro j hj ih hno
        have hyes : ldAt g y j (nT g + x.term) → fitsB g y x := fun h => .inr ⟨hk, (leads_at hlen).2 ⟨j, hj, h⟩⟩
        have next : ¬ ldAt g y j (nT g + x.term) → normal_parts_fits.c8 (fun v L' => L' = L ∧ ∃ w : Bool, v = .bool w ∧ (w = true ↔ fitsB g y x)) (some ⟨b, 0, none⟩) sy ((sy.n : Nat) : Int) ((j : Nat) : Int) y.1 sy x.rule x.term sx L := by
          intro h
          apply normal_parts_fits.go8
          unfold normal_parts_fits.t8
          rw [add_one (by omega)]
          refine ih fun i hi => ?_
          by_cases e : i = j
          · rw [e]; exact h
          · exact hno i (by omega)
        apply normal_parts_fits.go4
        refine bcD (fun _ => ?_) fun h => absurd (by rw [hy.n]; omega) h
        have hyj := List.getElem?_eq_getElem hj
        refine hy.get hyj fun a1 cs1 hK1 hc1 => ?_
        obtain rfl := hK1
        have r1 := hc1.1
        rw [add_zero] at r1
        refine ⟨_, r1, _, hq.mem 5 _ rfl, ?_⟩
        rw [hw]
        refine bcE (fun e => ?_) fun e => next fun h => ?_
        · rw [e] at hyj
          refine bcE (fun h1 => ?_) fun h1 => ?_
          · apply normal_parts_fits.go7
            exact ⟨rfl, true, rfl, fun _ => hyes ⟨hyj, .inl (by rw [hy.n] at h1; omega)⟩, fun _ => rfl⟩
          · have h2 : y.2.length = 2 := by rw [hy.n] at h1; omega
            have ho : 1 - j < y.2.length := by omega
            have hw1 : w64 (1 - (j : Int)) = ((1 - j : Nat) : Int) := by rw [w64_in (by omega) (by omega)]; omega
            have hyo := List.getElem?_eq_getElem ho
            have hor := hr _ (List.getElem_mem ho)
            obtain ⟨w, hnw, hnd⟩ := null_at hq hor (by omega)
            refine ⟨sn, hq.mem 8 _ rfl, ?_⟩
            rw [hw1]
            refine hy.get hyo fun a2 cs2 hK2 hc2 => ?_
            obtain rfl := hK2
            have r2 := hc2.1
            rw [add_zero] at r2
            refine ⟨_, r2, hq.nulls.getI hor.1 hnw fun a3 cs3 hK3 hc3 => ?_⟩
            obtain rfl := hK3
            have r3 := hc3.1
            rw [add_zero] at r3
            refine ⟨_, r3, bcI (fun hw => ?_) fun hw => next ?_⟩
            · apply normal_parts_fits.go7
              exact ⟨rfl, true, rfl, fun _ => hyes ⟨hyj, .inr ⟨_, hyo, hnd.1 hw⟩⟩, fun _ => rfl⟩
            · rintro ⟨_, h | ⟨o, h, hd⟩⟩
              · omega
              · rw [hyo] at h
                injection h with h
                rw [← h] at hd
                rw [hnd.2 hd] at hw; cases hw
        · have := h.1
          rw [hyj] at this
          exact e (Option.some.inj this)
    exact key 0 (Nat.zero_le _) fun i hi => by omega

def EB (g : Gram) (R : Nat) : Nat := (R - 1) * Sz R g.nons.toNat

theorem around_spec (hv : Valid g) (hR : ∀ r ∈ g.rules, r.right.length ≤ R) (h2 : 2 ≤ R) (h4 : R ≤ 4) {L : GHeap} (hq : PQ L b g sg sr srl sn nl) {y : Bs} {sy : Sl} (hy : IsSl rI L sy y.2) (hlen : y.2.length ≤ 2) (hr : ∀ m ∈ y.2, 0 ≤ m ∧ m < nN g) {n : Int} (hl : leads g y n)
    {sl : Sl} {l : List Tree} (hsl : IsSl rTree L sl l) (hll : l.length ≤ 8) :
    ACalls PP normal_parts_around.id [.pointer (some ⟨b, 0, none⟩), .agg #[.int .i64 y.1, .slice sy.a sy.n sy.c], .int .i64 n, .slice sl.a sl.n sl.c] L fun v L' => Le L L' ∧ ∃ (so : Sl) (l' : List Tree), v = .slice so.a so.n so.c ∧ IsSl rTree L' so l' ∧ ArOk g (EB g R) y n l l' := by
  have hN := nN_le hv
  apply normal_parts_around.go
  refine bcD (fun h => ⟨.refl L, sl, l, rfl, hsl, ?_⟩) fun h => ?_
  · rcases hl with hl | ⟨o, hl, _⟩ | ⟨o, hl, _⟩
    · exact .inl ⟨hl, rfl⟩
    · rw [hy.n, hl] at h; simp at h
    · rw [hy.n, hl] at h; simp at h
  obtain ⟨a, c, he⟩ : ∃ a c, y.2 = [a, c] := by
    have h2 : y.2.length = 2 := by rw [hy.n] at h; omega
    match hh : y.2, h2 with
    | [a, c], _ => exact ⟨a, c, rfl⟩
  have hra := hr a (by rw [he]; simp)
  have hrc := hr c (by rw [he]; simp)
  have hy0 := hy
  rw [he] at hy
  obtain ⟨w, hnw, hnd⟩ := null_at hq hrc (by omega)
  have c5 : ¬ (a = n ∧ w = true) → normal_parts_around.c5 (fun v L' => Le L L' ∧ ∃ (so : Sl) (l' : List Tree), v = .slice so.a so.n so.c ∧ IsSl rTree L' so l' ∧ ArOk g (EB g R) y n l l') (some ⟨b, 0, none⟩) sl y.1 sy L := by
    intro hno
    have hda : c = n ∧ DerE (rulesG g).flatten a := by
      rcases hl with hl | ⟨o, hl, hd⟩ | ⟨o, hl, hd⟩
      · rw [he] at hl; injection hl with _ hl; cases hl
      · rw [he] at hl
        injection hl with e1 hl
        injection hl with e2 _
        subst e1 e2
        exact absurd ⟨rfl, hnd.2 hd⟩ hno
      · rw [he] at hl
        injection hl with e1 hl
        injection hl with e2 _
        subst e1 e2
        exact ⟨rfl, hd⟩
    apply normal_parts_around.go5
    refine hy.get (i := 0) (x := a) rfl fun a1 cs1 hK1 hc1 => ?_
    obtain rfl := hK1
    have r1 := hc1.1
    rw [add_zero] at r1
    refine ⟨_, r1, (empty_spec hv hR h2 h4 hq hda.2 hra).mono ?_⟩
    rintro v L1 ⟨hle1, so, ts, rfl, ho, hd, hb, htl⟩
    refine ⟨so, rfl, ?_⟩
    obtain ⟨cc, hcc, hrc'⟩ := (hsl.mono hle1.toLeM).cells
    refine ⟨cc, ⟨hrc', hcc.one⟩, ?_⟩
    refine Own.append (R := rTree) (bytes := 40) (m := sl.n) (ys := l) ho hle1 hcc hsl.n.symm (.inl (by rw [hsl.n]; omega)) fun s' L' g1 g2 g3 _ _ => ?_
    exact ⟨g1, s', ts ++ l, rfl, g3.sl, .inr (.inr ⟨a, ts, by rw [he, hda.1], hd, hb, rfl⟩)⟩
  refine hy.get (i := 0) (x := a) rfl fun a1 cs1 hK1 hc1 => ?_
  obtain rfl := hK1
  have r1 := hc1.1
  rw [add_zero] at r1
  refine ⟨_, r1, bcE (fun e => ?_) fun e => c5 fun h => e h.1⟩
  subst e
  refine ⟨sn, hq.mem 8 _ rfl, hy.get (i := 1) (x := c) rfl fun a2 cs2 hK2 hc2 => ?_⟩
  obtain rfl := hK2
  have r2 := hc2.1
  rw [add_zero] at r2
  refine ⟨_, r2, hq.nulls.getI hrc.1 hnw fun a3 cs3 hK3 hc3 => ?_⟩
  obtain rfl := hK3
  have r3 := hc3.1
  rw [add_zero] at r3
  refine ⟨_, r3, bcI (fun hw => ?_) fun hw => c5 fun h => by rw [h.2] at hw; cases hw⟩
  have fin : ∀ (L1 : GHeap) (s1 : Sl), Le L L1 → Own L rTree L1 s1 l → ACalls PP normal_parts_empty.id [.pointer (some ⟨b, 0, none⟩), .int .i64 c] L1 fun v LL => ∃ x39 : Sl, v = .slice x39.a x39.n x39.c ∧
      ∃ c40 : List Value, (readsSl LL x39.a (x39.n * 3) c40 ∧ c40.all Value.oneCell' = true) ∧ appendK 3 40 LL s1 x39.n c40 fun x40 L' => Le L L' ∧ ∃ (so : Sl) (l' : List Tree), Value.slice x40.a x40.n x40.c = .slice so.a so.n so.c ∧ IsSl rTree L' so l' ∧ ArOk g (EB g R) y a l l' := by
    intro L1 s1 hle1 ho1
    refine (empty_spec hv hR h2 h4 (hq.up hle1.toLeM) (hnd.1 hw) hrc).mono ?_
    rintro v L2 ⟨hle2, so, ts, rfl, ho, hd, hb, htl⟩
    refine ⟨so, rfl, ?_⟩
    obtain ⟨cc, hcc, hrc'⟩ := ho.sl.cells
    refine ⟨cc, ⟨hrc', hcc.one⟩, ?_⟩
    refine Own.append (R := rTree) (bytes := 40) (m := so.n) (ys := ts) (ho1.mono hle2) (hle1.trans hle2) hcc ho.sl.n.symm (.inl (by rw [ho.sl.n]; omega)) fun s' L' g1 g2 g3 _ _ => ?_
    exact ⟨g1, s', l ++ ts, rfl, g3.sl, .inr (.inl ⟨c, ts, he, hd, hb, rfl⟩)⟩
  refine hy.get (i := 1) (x := c) rfl fun a4 cs4 hK4 hc4 => ?_
  obtain rfl := hK4
  have r4 := hc4.1
  rw [add_zero] at r4
  refine ⟨(CloneT_spec hsl (by omega)).mono ?_, _, r4, (CloneT_spec hsl (by omega)).mono ?_⟩
  · rintro v L1 ⟨s1, rfl, hle1, ho1⟩
    exact ⟨s1, rfl, _, hle1.mem _ _ r4, fin L1 s1 hle1 ho1⟩
  · rintro v L1 ⟨s1, rfl, hle1, ho1⟩
    exact ⟨s1, rfl, fin L1 s1 hle1 ho1⟩
end Go.Proofs.YtcnkbjipogngaaaDoor.NormT

