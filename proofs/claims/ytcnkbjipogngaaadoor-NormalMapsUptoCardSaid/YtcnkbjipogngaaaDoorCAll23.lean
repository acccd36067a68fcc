/- Contracts of the program's functions. -/
import Derived.Test.YtcnkbjipogngaaaDoorVAll0
import Derived.Test.YtcnkbjipogngaaaDoorCAll16
import Derived.Test.YtcnkbjipogngaaaDoorCAll17
import Derived.Test.YtcnkbjipogngaaaDoorCAll18
import Derived.Test.YtcnkbjipogngaaaDoorCAll22
import Derived.Test.YtcnkbjipogngaaaDoorCAll8
set_option linter.all false
namespace Go.Proofs.YtcnkbjipogngaaaDoor.NormS
open Go Go.Proofs.YtcnkbjipogngaaaDoor.GH NormC NormT

structure SpM (g : Gram) (L : GHeap) (sT sN : Sl) (nl : List Bool) : Prop where
  to_ : IsSl (rS (rS rI)) L sT ((List.range (nN g).toNat).map fun m : Nat => tosG (rulesG g).flatten (m : Int))
  nulls : IsSl rB L sN nl
  ok : NullOk (nN g).toNat (rulesG g).flatten nl
theorem SpM.mono {g : Gram} {L L' : GHeap} {sT sN : Sl} {nl : List Bool} (h : SpM g L sT sN nl) (hl : LeM L L') : SpM g L' sT sN nl := ⟨h.to_.mono hl, h.nulls.mono hl, h.ok⟩
def spV (g : Gram) (sT sN : Sl) : Value := .agg #[.int .i64 (nN g), .int .i64 (nT g), .slice sT.a sT.n sT.c, .slice sN.a sN.n sN.c]

theorem onK_mem {ld : List Bool} {T K : Nat} {a : Int} : a ∈ onK ld T (T + K) ↔ ∃ t : Nat, t < K ∧ a = (t : Int) ∧ ld.getD (T + t) false = true := by
  unfold onK
  rw [show T + K - T = K by omega, List.mem_map]
  constructor
  · rintro ⟨t, ht, rfl⟩
    obtain ⟨h1, h2⟩ := List.mem_filter.1 ht
    exact ⟨t, List.mem_range.1 h1, rfl, h2⟩
  · rintro ⟨t, h1, rfl, h2⟩
    exact ⟨t, List.mem_filter.2 ⟨List.mem_range.2 h1, h2⟩, rfl⟩

theorem co_inv {g : Gram} {x : Tree} {c : Nat} (h : Co g x c) : x.kids = [] ∨ ∃ l r, x.kids = [l, r] ∧ x.term = 0 ∧ (∃ n, Ch g x x.rule n) ∧ (∃ c, Co g l c) ∧ ∃ c, Co g r c := by
  cases h with
  | term => exact .inl rfl
  | leaf => exact .inl rfl
  | node hc h1 h2 => exact .inr ⟨_, _, rfl, rfl, ⟨_, hc⟩, ⟨_, h1⟩, _, h2⟩

theorem isNormal_spec {g : Gram} (hv : Valid g) {sT sN : Sl} {nl : List Bool} : ∀ (x : Tree) {L : GHeap} {sx : Sl}, SpM g L sT sN nl → IsSl rTree L sx x.kids →
    ACalls PP parllaw2_isNormal.id [spV g sT sN, treeV x sx] L fun v L' => Le L L' ∧ ∃ w : Bool, v = .bool w ∧ (w = true ↔ ∃ c, Co g x c) := by
  have hN := nN_le hv
  have ht := hv.terms
  have hNT : nN g = nT g + g.terms := rfl
  have hok : ∀ x ∈ (rulesG g).flatten, BsOk (nN g).toNat x := by
    intro x hx
    obtain ⟨l, hl, hx⟩ := List.mem_flatten.1 hx
    exact (rulesG_ok hv l hl).2 x hx
  have hbl := flat_all hv
  refine Tree.ind fun m a ks ih L sx hq hx => ?_
  replace hx : IsSl rTree L sx ks := hx
  have hxn := hx.n
  have hrng : ∀ c, Co g (.mk m a ks) c → 0 ≤ m ∧ m < nN g := fun c hc => co_range hv hc
  apply parllaw2_isNormal.go
  refine bcD (fun h => ?_) fun h0 => bcD (fun h => ?_) fun h1 => ?_
  · apply parllaw2_isNormal.go2
    exact ⟨.refl L, false, rfl, (fun h => by cases h), fun ⟨c, hc⟩ => by have := hrng c hc; have : m < 0 := h; omega⟩
  · apply parllaw2_isNormal.go2
    exact ⟨.refl L, false, rfl, (fun h => by cases h), fun ⟨c, hc⟩ => by have := hrng c hc; have : m ≥ nN g := h; omega⟩
  have hm0 : 0 ≤ m := by have : ¬ m < 0 := h0; omega
  have hm1 : m < nN g := by have : ¬ m ≥ nN g := h1; omega
  obtain ⟨mm, rfl⟩ := Int.eq_ofNat_of_zero_le hm0
  obtain ⟨T, hTT⟩ := Int.eq_ofNat_of_zero_le (show 0 ≤ nT g by omega)
  obtain ⟨Kt, hKK⟩ := Int.eq_ofNat_of_zero_le (show 0 ≤ g.terms by omega)
  have hNN : nN g = ((T + Kt : Nat) : Int) := by omega
  have hNt : (nN g).toNat = T + Kt := by rw [hNN]; rfl
  obtain ⟨hqT, hqN, hqO⟩ := hq
  rw [hNt] at hok hqT hqO
  have hlf := fun a => leaf_iff (g := g) (m := (mm : Int)) (a := a) hok hqO
  have hnd := fun a l r => node_iff (g := g) (m := (mm : Int)) (a := a) (l := l) (r := r) hok hqO
  have hspec := PairsOf_spec (N := T + Kt) (T := T) (n := mm) hok hbl (by omega) (by omega) hqT hqN hqO.len (by omega)
  rw [← hNN, ← hTT] at hspec
  refine hspec.mono ?_
  rintro v L1 ⟨hle1, sp, so, ps, ld, rfl, hsp, hso, hld, hpw, hmem, hpl⟩
  rw [hNN] at hld
  have hx1 := hx.mono hle1.toLeM
  have hT1 := hqT.mono hle1.toLeM
  have hN1 := hqN.mono hle1.toLeM
  refine ⟨sp, so, rfl, bcE (fun hz => ?_) fun hz => bcE (fun h2 => bcE (fun ha => ?_) fun ha => ?_) fun h2 => ?_⟩
  · -- a leaf
    have hk : ks = [] := List.eq_nil_of_length_eq_zero (by have hz : ((sx.n : Nat) : Int) = 0 := hz; omega)
    subst hk
    have hol := onK_len (ld := ld) (T := T) (k := T + Kt)
    refine (Contains_ro (v := a) hso (by omega)).use ⟨_, rfl, hle1, _, rfl, ?_⟩
    rw [decide_eq_true_iff, hlf a, onK_mem]
    constructor
    · rintro ⟨t, h1, rfl, h2⟩
      refine ⟨by omega, by omega, ?_⟩
      have := (hld (T + t)).1 h2
      have e : ((T + t : Nat) : Int) = nT g + (t : Int) := by omega
      rw [e] at this; exact this
    · rintro ⟨h0, h1, h2⟩
      obtain ⟨t, rfl⟩ := Int.eq_ofNat_of_zero_le h0
      refine ⟨t, by omega, rfl, (hld (T + t)).2 ?_⟩
      have e : ((T + t : Nat) : Int) = nT g + (t : Int) := by omega
      rw [e]; exact h2
  · -- two kids
    have hl2 : ks.length = 2 := by have h2 : ((sx.n : Nat) : Int) = 2 := h2; omega
    match ks, hl2 with
    | [l, r], _ =>
    have ha0 : a = 0 := ha
    subst ha0
    have hco : (∃ c, Co g (.mk (mm : Int) 0 [l, r]) c) ↔ (l.rule, r.rule) ∈ ps ∧ (∃ c, Co g l c) ∧ ∃ c, Co g r c := by
      have e1 : (l.rule, r.rule) ∈ ps ↔ ∃ n, Ch g (.mk (mm : Int) 0 [l, r]) (mm : Int) n := by
        rw [hmem, hnd]
        constructor
        · rintro ⟨k, h1, h2, h3⟩; exact ⟨k, h1, (hld k).1 h2, h3⟩
        · rintro ⟨k, h1, h2, h3⟩; exact ⟨k, h1, (hld k).2 h2, h3⟩
      rw [e1]
      constructor
      · rintro ⟨c, hc⟩
        rcases co_inv hc with h | ⟨l', r', h, _, h1, h2, h3⟩
        · cases h
        · have h : [l, r] = [l', r'] := h
          injection h with e1 h
          injection h with e2 _
          subst e1 e2
          exact ⟨h1, h2, h3⟩
      · rintro ⟨⟨n, hc⟩, ⟨c1, h1⟩, ⟨c2, h2⟩⟩
        exact ⟨_, .node hc h1 h2⟩
    refine hx1.get (i := 0) (x := l) rfl fun a1 cs1 hK1 hc1 => ?_
    obtain ⟨s1, rfl, hs1⟩ := TK.open hK1
    refine hx1.get (i := 1) (x := r) rfl fun a2 cs2 hK2 hc2 => ?_
    obtain ⟨s2, rfl, hs2⟩ := TK.open hK2
    have r1 := hc1.1
    rw [add_zero] at r1
    have r2 := hc2.1
    rw [add_zero] at r2
    have hcont := (Contains2_ro (v := (l.rule, r.rule)) hsp (by omega)).use (K := fun v LL => ∃ x54 : Bool, v = .bool x54 ∧ bc x54
        (ptrK sx.a fun x60 => (0 ≤ (0 : Int) ∧ (0 : Int) < ((sx.n : Nat) : Int)) ∧ ∃ x61_0 : Int, ∃ x61_1 : Int, ∃ x61_2 : Sl, LL.reads (x60.add (Int.toNat (0 : Int) * 3)) 0 [.int .i64 x61_0, .int .i64 x61_1, .slice x61_2.a x61_2.n x61_2.c] ∧ ACalls PP parllaw2_isNormal.id [spV g sT sN, .agg #[.int .i64 x61_0, .int .i64 x61_1, .slice x61_2.a x61_2.n x61_2.c]] LL fun v LL => ∃ x62 : Bool, v = .bool x62 ∧
          bc x62 (ptrK sx.a fun x68 => (0 ≤ (1 : Int) ∧ (1 : Int) < ((sx.n : Nat) : Int)) ∧ ∃ x69_0 : Int, ∃ x69_1 : Int, ∃ x69_2 : Sl, LL.reads (x68.add (Int.toNat (1 : Int) * 3)) 0 [.int .i64 x69_0, .int .i64 x69_1, .slice x69_2.a x69_2.n x69_2.c] ∧ ACalls PP parllaw2_isNormal.id [spV g sT sN, .agg #[.int .i64 x69_0, .int .i64 x69_1, .slice x69_2.a x69_2.n x69_2.c]] LL fun v LL => ∃ x70 : Bool, v = .bool x70 ∧ (Le L LL ∧ ∃ w : Bool, Value.bool x70 = .bool w ∧ (w = true ↔ ∃ c, Co g (.mk (mm : Int) 0 [l, r]) c)))
            (Le L LL ∧ ∃ w : Bool, Value.bool false = .bool w ∧ (w = true ↔ ∃ c, Co g (.mk (mm : Int) 0 [l, r]) c)))
        (Le L LL ∧ ∃ w : Bool, Value.bool false = .bool w ∧ (w = true ↔ ∃ c, Co g (.mk (mm : Int) 0 [l, r]) c))) ⟨_, rfl, bcD (fun hin => ?_) fun hin => ?_⟩
    · exact ⟨⟨_, r1, _, r2, hcont⟩, _, r2, _, r1, hcont⟩
    · have hq1 : SpM g L1 sT sN nl := ⟨by rw [hNt]; exact hT1, hN1, by rw [hNt]; exact hqO⟩
      refine hx1.get (i := 0) (x := l) rfl fun a3 cs3 hK3 hc3 => ?_
      obtain ⟨s3, rfl, hs3⟩ := TK.open hK3
      refine ⟨_, _, s3, hc3, (ih l (by simp) hq1 hs3).mono ?_⟩
      rintro v L2 ⟨hle2, w1, rfl, hw1⟩
      refine ⟨w1, rfl, bcI (fun h1 => ?_) fun h1 => ?_⟩
      · refine (hx1.mono hle2.toLeM).get (i := 1) (x := r) rfl fun a4 cs4 hK4 hc4 => ?_
        obtain ⟨s4, rfl, hs4⟩ := TK.open hK4
        refine ⟨_, _, s4, hc4, (ih r (by simp) (hq1.mono hle2.toLeM) hs4).mono ?_⟩
        rintro v L3 ⟨hle3, w2, rfl, hw2⟩
        refine ⟨w2, rfl, (hle1.trans hle2).trans hle3, w2, rfl, ?_⟩
        rw [hco, hw2]
        exact ⟨fun h => ⟨hin, hw1.1 h1, h⟩, fun h => h.2.2⟩
      · refine ⟨hle1.trans hle2, false, rfl, (fun h => by cases h), fun h => ?_⟩
        rw [hco] at h
        rw [hw1.2 h.2.1] at h1; cases h1
    · refine ⟨hle1, false, rfl, (fun h => by cases h), fun h => ?_⟩
      rw [hco] at h
      exact absurd h.1 hin
  · refine ⟨hle1, false, rfl, (fun h => by cases h), fun ⟨c, hc⟩ => ?_⟩
    have hl2 : ks.length = 2 := by have h2 : ((sx.n : Nat) : Int) = 2 := h2; omega
    rcases co_inv hc with h | ⟨l', r', _, h, _⟩
    · have h : ks = [] := h
      rw [h] at hl2; cases hl2
    · exact (ha h).elim
  · refine ⟨hle1, false, rfl, (fun h => by cases h), fun ⟨c, hc⟩ => ?_⟩
    have hz' : ¬ ((sx.n : Nat) : Int) = 0 := hz
    have h2' : ¬ ((sx.n : Nat) : Int) = 2 := h2
    rw [hxn] at hz' h2'
    rcases co_inv hc with h | ⟨l', r', h, _⟩
    · have h : ks = [] := h
      rw [h] at hz'; exact (hz' rfl).elim
    · have h : ks = [l', r'] := h
      rw [h] at h2'; exact (h2' rfl).elim
end Go.Proofs.YtcnkbjipogngaaaDoor.NormS

namespace Go.Proofs.YtcnkbjipogngaaaDoor.NormT
open Go Go.Proofs.YtcnkbjipogngaaaDoor.GH

variable {g : Gram}

def zT : Value := .agg #[.int .i64 0, .int .i64 0, .slice none 0 0]
inductive DownR (g : Gram) (t : Tree) (v : Value) (L' : GHeap) : Prop
  | bad : treeE g t ≠ 0 → v = .tuple #[zT, .int .i64 (treeE g t)] → DownR g t v L'
  | leaf : treeE g t = 0 → t.rule < 0 → v = .tuple #[zT, .int .i64 3] → DownR g t v L'
  | none : treeE g t = 0 → ¬ t.rule < 0 → dn g t = none → v = .tuple #[zT, .int .i64 5] → DownR g t v L'
  | some (x : Tree) (sx : Sl) : treeE g t = 0 → ¬ t.rule < 0 → dn g t = some x → v = .tuple #[treeV x sx, .int .i64 0] → IsSl rTree L' sx x.kids → DownR g t v L'

theorem Down_spec (hv : Valid g) {L : GHeap} {sg s : Sl} {t : Tree} (hg : IsSl rRule L sg g.rules) (hs : IsSl rTree L s t.kids) (hy : treeE g t = 0 → SymOk g.terms g.nons (rootS g t)) :
    ACalls PP normal_Down.id [gramV g sg, treeV t s] L fun v L' => Le L L' ∧ DownR g t v L' := by
  apply normal_Down.go
  refine (Check_ro hg).use ⟨_, rfl, bcNE (fun h => absurd (chk_zero.2 hv) h) fun _ => (Tree_spec hg hs).mono ?_⟩
  rintro v L1 ⟨rfl, hle1⟩
  refine ⟨_, rfl, bcNE (fun h => ⟨hle1, .bad h rfl⟩) fun he => bcD (fun hr => ⟨hle1, .leaf he hr rfl⟩) fun hr => ?_⟩
  have hw := (treeE_wt he).1
  have hyo := hy he
  have leaf : ∀ (L2 : GHeap) (b : Nat) (sr srl sn : Sl) (nl : List Bool), Le L1 L2 → DivQ L2 b g sg sr srl sn nl →
      ACalls PP normal_parts_down.id [.pointer (some ⟨b, 0, none⟩), treeV t s] L2 fun v LL => ∃ x31a_0, ∃ x31a_1, ∃ x31a_2 : Sl, ∃ x31b : Bool, v = .tuple #[.agg #[.int .i64 x31a_0, .int .i64 x31a_1, .slice x31a_2.a x31a_2.n x31a_2.c], .bool x31b] ∧
        normal_Down.c10 (fun v L' => Le L L' ∧ DownR g t v L') x31b 0 0 ⟨none, 0, 0⟩ x31a_0 x31a_1 x31a_2 LL := by
    intro L2 b sr srl sn nl hle2 hq
    have hl := hle1.trans hle2
    refine (down_spec hv t _ hw hyo ⟨hq, hg.mono hl.toLeM⟩ (hs.mono hl.toLeM)).mono ?_
    rintro v L3 ⟨hle3, x, sx, rfl, hx, hxo⟩
    refine ⟨_, _, sx, _, rfl, ?_⟩
    apply normal_Down.go10
    cases hd : dn g t with
    | none =>
      refine bcT rfl ?_
      apply normal_Down.go11
      exact ⟨hl.trans hle3, .none he hr hd rfl⟩
    | some z =>
      obtain rfl := hxo z hd
      refine bcF rfl ?_
      apply normal_Down.go12
      exact ⟨hl.trans hle3, .some z sx he hr hd rfl hx⟩
  refine ⟨(divide_spec hv (hg.mono hle1.toLeM)).mono ?_, (divide_spec hv (hg.mono hle1.toLeM)).mono ?_⟩
  · rintro v L2 ⟨hle2, b, sr, srl, sn, nl, rfl, hq⟩
    exact ⟨_, rfl, leaf L2 b sr srl sn nl hle2 hq, leaf L2 b sr srl sn nl hle2 hq⟩
  · rintro v L2 ⟨hle2, b, sr, srl, sn, nl, rfl, hq⟩
    exact ⟨_, rfl, leaf L2 b sr srl sn nl hle2 hq⟩
end Go.Proofs.YtcnkbjipogngaaaDoor.NormT

