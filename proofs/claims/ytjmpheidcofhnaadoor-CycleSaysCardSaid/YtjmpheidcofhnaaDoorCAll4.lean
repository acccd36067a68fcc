/- Contracts of the program's functions. -/
import Derived.Test.YtjmpheidcofhnaaDoorLibD
import Derived.Test.YtjmpheidcofhnaaDoorCAll2
import Derived.Test.YtjmpheidcofhnaaDoorCAll3
set_option linter.all false
namespace Go.Proofs.YtjmpheidcofhnaaDoor
open Go Go.Proofs.YtjmpheidcofhnaaDoor.GH

def cellB (rows : List (List Bool)) (n t : Int) : Bool := (rows.getD n.toNat []).getD t.toNat false

theorem cellB_set {rows : List (List Bool)} {n : Nat} {row : List Bool} (hn : n < rows.length) (k t : Nat) : cellB (rows.set n row) k t = if k = n then row.getD t false else cellB rows k t := by
  unfold cellB
  simp only [Int.toNat_natCast]
  by_cases e : k = n
  · subst e
    have e : (rows.set k row).getD k [] = row := by rw [List.getD_eq_getElem?_getD, List.getElem?_set_self hn]; rfl
    rw [if_pos rfl, e]
  · have e' : (rows.set n row).getD k [] = rows.getD k [] := by rw [List.getD_eq_getElem?_getD, List.getElem?_set_ne (Ne.symm e), ← List.getD_eq_getElem?_getD]
    rw [if_neg e, e']
theorem getB_set {out : List Bool} {i : Nat} {v : Bool} (h : i < out.length) (n : Nat) : (out.set i v).getD n false = if n = i then v else out.getD n false := by
  rw [List.getD_eq_getElem?_getD, List.getD_eq_getElem?_getD]
  by_cases e : n = i
  · subst e; rw [if_pos rfl, List.getElem?_set_self h]; rfl
  · rw [if_neg e, List.getElem?_set_ne (Ne.symm e)]

theorem getB_get {out : List Bool} {i : Nat} (h : i < out.length) : out.getD i false = out[i] := by rw [List.getD_eq_getElem?_getD, List.getElem?_eq_getElem h]; rfl
end Go.Proofs.YtjmpheidcofhnaaDoor

namespace Go.Proofs.YtjmpheidcofhnaaDoor
open Go Go.Proofs.YtjmpheidcofhnaaDoor.GH

/-! ### functions that test -/
theorem IndexFuncSym_ro {L : GHeap} {s : Sl} {xs : List Sym} {f : FuncId} {cap : List Value} {p : Sym → Bool} (hs : IsSl rSym L s xs) (hb : xs.length ≤ 1048576) (hf : ∀ x ∈ xs, RO PP f ([.agg #[.bool x.term, .int .i64 x.n]] ++ cap) L (.bool (p x))) :
    ∃ k : Int, (0 ≤ k ↔ ∃ x ∈ xs, p x = true) ∧ RO PP slices_IndexFunc_api_Sym_api_Sym.id [.slice s.a s.n s.c, .func (.func f) #[] (List.toArray cap)] L (.int .i64 k) := by
  have hk : ∃ k : Int, (0 ≤ k ↔ ∃ x ∈ xs, p x = true) ∧ ∀ i, i ≤ xs.length → (¬ ∃ x ∈ xs.take i, p x = true) → slices_IndexFunc_api_Sym_api_Sym.c2 (fun u L' => u = Value.int .i64 k ∧ L' = L) s f cap ((s.n : Nat) : Int) ((i : Nat) : Int) L := by
    by_cases hex : ∃ i, ∃ h : i < xs.length, p xs[i] = true ∧ ∀ j, ∀ h' : j < i, p (xs[j]'(by omega)) = false
    · obtain ⟨i0, h0, hp, hmin⟩ := hex
      refine ⟨i0, ⟨fun _ => ⟨_, List.getElem_mem h0, hp⟩, fun _ => by omega⟩, ?_⟩
      refine down ?_ ?_
      · intro hn
        exact absurd ⟨_, by rw [List.take_length]; exact List.getElem_mem h0, hp⟩ hn
      · intro i hi ih hn
        apply slices_IndexFunc_api_Sym_api_Sym.go2
        refine bcD (fun _ => ?_) fun h => absurd (by rw [hs.n]; omega) h
        refine hs.get (List.getElem?_eq_getElem hi) fun a cs hK hc => ?_
        obtain rfl := hK
        refine ⟨_, _, hc, (hf _ (List.getElem_mem hi)).use ⟨_, rfl, bcI (fun hpi => ?_) fun hpi => ?_⟩⟩
        · have : i = i0 := by
            rcases Nat.lt_trichotomy i i0 with h | h | h
            · rw [hmin i h] at hpi; cases hpi
            · exact h
            · exact absurd ⟨_, List.getElem_mem (l := xs.take i) (n := i0) (by simp; omega), by rw [List.getElem_take]; exact hp⟩ hn
          subst this
          exact ⟨rfl, rfl⟩
        · rw [add_one (by omega)]
          refine ih ?_
          rintro ⟨x, hx, hpx⟩
          rw [List.take_succ_eq_append_getElem hi] at hx
          rcases List.mem_append.1 hx with hx | hx
          · exact hn ⟨x, hx, hpx⟩
          · rw [List.mem_singleton] at hx; subst hx; rw [hpi] at hpx; cases hpx
    · have hall : ∀ i, ∀ h : i < xs.length, p xs[i] = false := by
        intro i
        induction i using Nat.strongRecOn with
        | ind i ih =>
          intro h
          cases hp : p xs[i] with
          | false => rfl
          | true => exact absurd ⟨i, h, hp, fun j hj => ih j hj (by omega)⟩ hex
      have hnone : ¬ ∃ x ∈ xs, p x = true := by
        rintro ⟨x, hx, hpx⟩
        obtain ⟨i, hi, rfl⟩ := List.getElem_of_mem hx
        rw [hall i hi] at hpx; cases hpx
      refine ⟨-1, ⟨fun h => by omega, fun h => absurd h hnone⟩, ?_⟩
      refine down ?_ ?_
      · intro _
        apply slices_IndexFunc_api_Sym_api_Sym.go2
        exact bcD (fun h => absurd h (by rw [hs.n]; omega)) fun _ => ⟨rfl, rfl⟩
      · intro i hi ih hn
        apply slices_IndexFunc_api_Sym_api_Sym.go2
        refine bcD (fun _ => ?_) fun h => absurd (by rw [hs.n]; omega) h
        refine hs.get (List.getElem?_eq_getElem hi) fun a cs hK hc => ?_
        obtain rfl := hK
        refine ⟨_, _, hc, (hf _ (List.getElem_mem hi)).use ⟨_, rfl, bcF (hall i hi) ?_⟩⟩
        rw [add_one (by omega)]
        refine ih ?_
        rintro ⟨x, hx, hpx⟩
        exact hnone ⟨x, List.mem_of_mem_take hx, hpx⟩
  obtain ⟨k, h1, h2⟩ := hk
  exact ⟨k, h1, slices_IndexFunc_api_Sym_api_Sym.go (h2 0 (Nat.zero_le _) (by simp))⟩

theorem ContainsFuncSym_ro {L : GHeap} {s : Sl} {xs : List Sym} {f : FuncId} {cap : List Value} {p : Sym → Bool} (hs : IsSl rSym L s xs) (hb : xs.length ≤ 1048576) (hf : ∀ x ∈ xs, RO PP f ([.agg #[.bool x.term, .int .i64 x.n]] ++ cap) L (.bool (p x))) :
    RO PP slices_ContainsFunc_api_Sym_api_Sym.id [.slice s.a s.n s.c, .func (.func f) #[] (List.toArray cap)] L (.bool (xs.any p)) := by
  obtain ⟨k, h1, h2⟩ := IndexFuncSym_ro hs hb hf
  apply slices_ContainsFunc_api_Sym_api_Sym.go
  refine h2.use ⟨_, rfl, ?_, rfl⟩
  congr 1
  rw [Bool.eq_iff_iff, decide_eq_true_iff, List.any_eq_true]
  exact h1

/-- A test of rules of a grammar. -/
def TestR (g : Gram) (f : FuncId) (cap : List Value) (p : Rule → Bool) (L : GHeap) : Prop :=
  ∀ (r : Rule) (sr : Sl) (L' : GHeap), r ∈ g.rules → Le L L' → IsSl rSym L' sr r.right → RO PP f ([.agg #[.int .i64 r.left, .slice sr.a sr.n sr.c]] ++ cap) L' (.bool (p r))

/-! ### reached -/
inductive Rch (g : Gram) (p : Rule → Bool) : Int → Prop
  | start : Rch g p g.start
  | step {r s} : r ∈ g.rules → p r = true → Rch g p r.left → s ∈ r.right → s.term = false → Rch g p s.n

structure ROk (g : Gram) (p : Rule → Bool) (out : List Bool) : Prop where
  len : out.length = g.nons.toNat
  sound : ∀ n : Nat, n < g.nons.toNat → out.getD n false = true → Rch g p n
  start : out.getD g.start.toNat false = true

def RClosed (out : List Bool) (p : Rule → Bool) (r : Rule) : Prop := out.getD r.left.toNat false = true → p r = true → ∀ s ∈ r.right, s.term = false → out.getD s.n.toNat false = true

structure RSpec (g : Gram) (p : Rule → Bool) (out : List Bool) : Prop where
  len : out.length = g.nons.toNat
  iff_ : ∀ n : Int, 0 ≤ n → n < g.nons → (out.getD n.toNat false = true ↔ Rch g p n)

theorem ROk.set {g : Gram} (hv : Valid g) {p : Rule → Bool} {out : List Bool} (h : ROk g p out) {r : Rule} {s : Sym} (hr : r ∈ g.rules) (hp : p r = true) (hl : out.getD r.left.toNat false = true) (hs : s ∈ r.right) (ht : s.term = false) (hf : out.getD s.n.toNat false = false) :
    ROk g p (out.set s.n.toNat true) ∧ falses (out.set s.n.toNat true) < falses out := by
  have hok := hv.ok r hr
  have hleft := hok.1.left
  obtain ⟨s1, _, s3⟩ := hok.1.right s hs
  have s3 := s3 ht
  have hlen := h.len
  have hlt : s.n.toNat < out.length := by omega
  refine ⟨⟨by rw [List.length_set]; exact h.len, fun n hn hc => ?_, ?_⟩, ?_⟩
  · rw [getB_set hlt] at hc
    split at hc
    · rename_i e
      subst e
      have e : ((s.n.toNat : Nat) : Int) = s.n := by omega
      rw [e]
      refine .step hr hp ?_ hs ht
      have := h.sound r.left.toNat (by omega) hl
      rwa [Int.toNat_of_nonneg hleft.1] at this
    · exact h.sound n hn hc
  · rw [getB_set hlt]; split
    · rfl
    · exact h.start
  · have hc := countB_set (p := fun b => !b) (v := true) hlt
    have e : out[s.n.toNat] = false := by rw [← getB_get hlt]; exact hf
    rw [e] at hc
    simp at hc
    unfold falses; omega

theorem reached_spec {L : GHeap} {g : Gram} {sg : Sl} {f : FuncId} {cap : List Value} {p : Rule → Bool} (hv : Valid g) (hs : IsSl rRule L sg g.rules) (hf : TestR g f cap p L) :
    ACalls PP useful_reached.id [gramV g sg, .func (.func f) #[] (List.toArray cap)] L fun v L' => Le L L' ∧ ∃ (so : Sl) (out : List Bool), v = .slice so.a so.n so.c ∧ IsSl rB L' so out ∧ RSpec g p out := by
  have hnn := hv.nons
  have hst := hv.start
  have hmany := hv.many
  apply useful_reached.go
  refine ⟨⟨by omega, by omega, by omega⟩, fun b hu => ?_⟩
  rw [Nat.mul_one]
  simp only [inL]
  obtain ⟨hpa, hoff⟩ := PA.new (f := Value.bool) (L0 := L) (z := false) (v := .bool false) (n := g.nons.toNat) rfl hu (LeM.refl L) (by omega)
  have hset := hpa.setI (r := g.start) (x := true) (v := .bool true) hst.1 (by simp; omega) rfl (k := fun L2 => useful_reached.c4 (fun v L' => Le L L' ∧ ∃ (so : Sl) (out : List Bool), v = .slice so.a so.n so.c ∧ IsSl rB L' so out ∧ RSpec g p out) f cap ⟨some ⟨b, 0, none⟩, g.nons.toNat, g.nons.toNat⟩ true g.terms g.nons g.start sg L2) fun L2 hp2 ho2 => by
    have ho2 := ho2.trans hoff
    have main : ∀ (d : Nat) (out : List Bool) (L2 : GHeap), falses out = d → ROk g p out → PA Value.bool L L2 (· = b) ⟨some ⟨b, 0, none⟩, g.nons.toNat, g.nons.toNat⟩ out → L2.off (· = b) = L →
        useful_reached.c4 (fun v L' => Le L L' ∧ ∃ (so : Sl) (out : List Bool), v = .slice so.a so.n so.c ∧ IsSl rB L' so out ∧ RSpec g p out) f cap ⟨some ⟨b, 0, none⟩, g.nons.toNat, g.nons.toNat⟩ true g.terms g.nons g.start sg L2 := by
      intro d
      induction d using Nat.strongRecOn with
      | ind d ih =>
        intro out0 L0 hd hok0 hpa0 hoff0
        have loop : ∀ k, k ≤ g.rules.length → ∀ (out : List Bool) (L2 : GHeap) (again : Bool), ROk g p out → PA Value.bool L L2 (· = b) ⟨some ⟨b, 0, none⟩, g.nons.toNat, g.nons.toNat⟩ out → L2.off (· = b) = L → (again = true → falses out < falses out0) →
            (again = false → out = out0 ∧ ∀ k' r, k' < k → g.rules[k']? = some r → RClosed out p r) →
            useful_reached.c7 (fun v L' => Le L L' ∧ ∃ (so : Sl) (out : List Bool), v = .slice so.a so.n so.c ∧ IsSl rB L' so out ∧ RSpec g p out) f cap ⟨some ⟨b, 0, none⟩, g.nons.toNat, g.nons.toNat⟩ again sg ((sg.n : Nat) : Int) ((k : Nat) : Int) g.terms g.nons g.start sg L2 := by
          refine down ?_ ?_
          · intro out L2 again hok hpa hoff h1 h2
            have hle : Le L L2 := hpa.le (by rw [hoff]; exact .refl L)
            apply useful_reached.go7
            refine bcD (fun h => absurd h (by rw [hs.n]; omega)) fun _ => ?_
            cases again with
            | true => exact ih _ (by have := h1 rfl; omega) out L2 rfl hok hpa hoff
            | false =>
              obtain ⟨_, hcl⟩ := h2 rfl
              apply useful_reached.go4
              refine ⟨hle, _, out, rfl, hpa.isBool, hok.len, fun n h0 hn => ⟨fun hc => ?_, fun hr => ?_⟩⟩
              · have := hok.sound n.toNat (by omega) hc
                rwa [Int.toNat_of_nonneg h0] at this
              · induction hr with
                | start => exact hok.start
                | @step r s hr hp hl hs ht ihl =>
                  obtain ⟨k, hk⟩ := List.getElem?_of_mem hr
                  have hleft := (hv.ok r hr).1.left
                  exact hcl k r (List.getElem?_eq_some_iff.1 hk).1 hk (ihl hleft.1 hleft.2) hp s hs ht
          · intro k hk ihk out L2 again hok hpa hoff h1 h2
            have hle : Le L L2 := hpa.le (by rw [hoff]; exact .refl L)
            have hs2 := hs.mono hle.toLeM
            obtain ⟨⟨hl, hrt⟩, hlen⟩ := hv.ok _ (List.getElem_mem hk)
            have hol := hok.len
            have hlt : g.rules[k].left.toNat < out.length := by omega
            have next : ∀ out' L3 again', ROk g p out' → PA Value.bool L L3 (· = b) ⟨some ⟨b, 0, none⟩, g.nons.toNat, g.nons.toNat⟩ out' → L3.off (· = b) = L → (again' = true → falses out' < falses out0) → (again' = false → out' = out0 ∧ ∀ k' r, k' < k + 1 → g.rules[k']? = some r → RClosed out' p r) →
                useful_reached.c16 (fun v L' => Le L L' ∧ ∃ (so : Sl) (out : List Bool), v = .slice so.a so.n so.c ∧ IsSl rB L' so out ∧ RSpec g p out) f cap ⟨some ⟨b, 0, none⟩, g.nons.toNat, g.nons.toNat⟩ again' sg ((sg.n : Nat) : Int) ((k : Nat) : Int) g.terms g.nons g.start sg L3 := by
              intro out' L3 again' a1 a2 a3 a4 a5
              apply useful_reached.go16
              unfold useful_reached.t16
              rw [add_one (by omega)]
              exact ihk out' L3 again' a1 a2 a3 a4 a5
            have stay : RClosed out p g.rules[k] → _ := fun hcl => next out L2 again hok hpa hoff h1 fun ha => ⟨(h2 ha).1, fun k' r hk' hr => by
              rcases Nat.lt_or_eq_of_le (Nat.le_of_lt_succ hk') with h | rfl
              · exact (h2 ha).2 k' r h hr
              · rw [List.getElem?_eq_getElem hk] at hr; cases hr; exact hcl⟩
            apply useful_reached.go7
            refine bcD (fun _ => ?_) fun h => absurd (by rw [hs2.n]; omega) h
            refine hs.get (List.getElem?_eq_getElem hk) fun a cs hK hc => ?_
            obtain ⟨sr, rfl, hsr⟩ := hK
            refine ⟨_, _, hle.toLeM.reads hc, ?_⟩
            refine hpa.getI hl.1 (List.getElem?_eq_getElem hlt) fun a2 hc2 => ⟨_, hc2, bcN (bcI (fun hin => ?_) fun hin => stay fun h => by rw [getB_get hlt, hin] at h; cases h)⟩
            refine (hf _ sr L2 (List.getElem_mem hk) hle (hsr.mono hle.toLeM)).use ⟨_, rfl, bcN (bcI (fun hp => ?_) fun hp => stay fun _ h => by rw [hp] at h; cases h)⟩
            -- the symbols
            have syms : ∀ j, j ≤ g.rules[k].right.length → ∀ (out : List Bool) (L2 : GHeap) (again : Bool), ROk g p out → PA Value.bool L L2 (· = b) ⟨some ⟨b, 0, none⟩, g.nons.toNat, g.nons.toNat⟩ out → L2.off (· = b) = L → out.getD g.rules[k].left.toNat false = true → (again = true → falses out < falses out0) →
                (again = false → out = out0 ∧ (∀ k' r, k' < k → g.rules[k']? = some r → RClosed out p r) ∧ ∀ s ∈ g.rules[k].right.take j, s.term = false → out.getD s.n.toNat false = true) →
                useful_reached.c11 (fun v L' => Le L L' ∧ ∃ (so : Sl) (out : List Bool), v = .slice so.a so.n so.c ∧ IsSl rB L' so out ∧ RSpec g p out) f cap ⟨some ⟨b, 0, none⟩, g.nons.toNat, g.nons.toNat⟩ again sg ((sg.n : Nat) : Int) ((k : Nat) : Int) sr ((sr.n : Nat) : Int) ((j : Nat) : Int) g.terms g.nons g.start sg L2 := by
              refine down ?_ ?_
              · intro out L2 again hok hpa hoff hin h1 h2
                rw [List.take_length] at h2
                apply useful_reached.go11
                refine bcD (fun h => absurd h (by rw [hsr.n]; omega)) fun _ => ?_
                refine next out L2 again hok hpa hoff h1 fun ha => ⟨(h2 ha).1, fun k' r hk' hr => ?_⟩
                rcases Nat.lt_or_eq_of_le (Nat.le_of_lt_succ hk') with h | rfl
                · exact (h2 ha).2.1 k' r h hr
                · rw [List.getElem?_eq_getElem hk] at hr; cases hr
                  exact fun _ _ => (h2 ha).2.2
              · intro j hj ihj out L2 again hok hpa hoff hin h1 h2
                have hle : Le L L2 := hpa.le (by rw [hoff]; exact .refl L)
                have hol := hok.len
                have hso := hrt _ (List.getElem_mem hj)
                rw [List.take_succ_eq_append_getElem hj] at ihj
                have nextj : ∀ out' L3 again', ROk g p out' → PA Value.bool L L3 (· = b) ⟨some ⟨b, 0, none⟩, g.nons.toNat, g.nons.toNat⟩ out' → L3.off (· = b) = L → out'.getD g.rules[k].left.toNat false = true → (again' = true → falses out' < falses out0) →
                    (again' = false → out' = out0 ∧ (∀ k' r, k' < k → g.rules[k']? = some r → RClosed out' p r) ∧ ∀ s ∈ g.rules[k].right.take j ++ [g.rules[k].right[j]], s.term = false → out'.getD s.n.toNat false = true) →
                    useful_reached.c15 (fun v L' => Le L L' ∧ ∃ (so : Sl) (out : List Bool), v = .slice so.a so.n so.c ∧ IsSl rB L' so out ∧ RSpec g p out) f cap ⟨some ⟨b, 0, none⟩, g.nons.toNat, g.nons.toNat⟩ again' sg ((sg.n : Nat) : Int) ((k : Nat) : Int) sr ((sr.n : Nat) : Int) ((j : Nat) : Int) g.terms g.nons g.start sg L3 := by
                  intro out' L3 again' a1 a2 a3 a4 a5 a6
                  apply useful_reached.go15
                  unfold useful_reached.t15
                  rw [add_one (by omega)]
                  exact ihj out' L3 again' a1 a2 a3 a4 a5 a6
                have stayj : (g.rules[k].right[j].term = false → out.getD g.rules[k].right[j].n.toNat false = true) → _ := fun hcl => nextj out L2 again hok hpa hoff hin h1 fun ha => ⟨(h2 ha).1, (h2 ha).2.1, fun s hs ht => by
                  rcases List.mem_append.1 hs with hs | hs
                  · exact (h2 ha).2.2 s hs ht
                  · rw [List.mem_singleton] at hs; subst hs; exact hcl ht⟩
                apply useful_reached.go11
                refine bcD (fun _ => ?_) fun h => absurd (by rw [hsr.n]; omega) h
                refine hsr.get (List.getElem?_eq_getElem hj) fun a3 cs3 hK3 hc3 => ?_
                obtain rfl := hK3
                refine ⟨_, _, hle.toLeM.reads hc3, bcN (bcI (fun ht => stayj fun h => by rw [ht] at h; cases h) fun ht => ?_)⟩
                have hsn := hso.2.2 ht
                have hs0 := hso.1
                have hlt' : g.rules[k].right[j].n.toNat < out.length := by omega
                refine hpa.getI hs0 (List.getElem?_eq_getElem hlt') fun a4 hc4 => ⟨_, hc4, bcN (bcI (fun hv1 => stayj fun _ => by rw [getB_get hlt', hv1]) fun hv0 => ?_)⟩
                obtain ⟨o1, o2⟩ := hok.set hv (List.getElem_mem hk) hp hin (List.getElem_mem hj) ht (by rw [getB_get hlt', hv0])
                refine hpa.setI hs0 hlt' rfl fun L3 hpa3 hoff3 => ?_
                refine nextj _ L3 true o1 hpa3 (hoff3.trans hoff) ?_ (fun _ => ?_) (fun h => by cases h)
                · rw [getB_set hlt']; split
                  · rfl
                  · exact hin
                · have : falses out ≤ falses out0 := by
                    cases again with
                    | true => exact Nat.le_of_lt (h1 rfl)
                    | false => rw [(h2 rfl).1]; exact Nat.le_refl _
                  omega
            exact syms 0 (Nat.zero_le _) out L2 again hok hpa hoff (by rw [getB_get hlt, hin]) h1 fun ha => ⟨(h2 ha).1, (h2 ha).2, fun s hs => by simp at hs⟩
        apply useful_reached.go4
        exact loop 0 (Nat.zero_le _) out0 L0 false hok0 hpa0 hoff0 (fun h => by cases h) fun _ => ⟨rfl, fun k' r h => by omega⟩
    refine main _ _ L2 rfl ⟨by simp, fun n hn hc => ?_, ?_⟩ hp2 ho2
    · rw [getB_set (by simp; omega)] at hc
      split at hc
      · rename_i e; rw [e, Int.toNat_of_nonneg hst.1]; exact .start
      · rw [List.getD_eq_getElem?_getD, List.getElem?_replicate] at hc
        split at hc <;> cases hc
    · rw [getB_set (by simp; omega), if_pos rfl]
  obtain ⟨h1, h2, h3⟩ := hset
  exact ⟨h1, h2, h3⟩
end Go.Proofs.YtjmpheidcofhnaaDoor

