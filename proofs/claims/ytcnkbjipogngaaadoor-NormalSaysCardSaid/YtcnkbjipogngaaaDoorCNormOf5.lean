/- normal.Of. -/
import Derived.Test.YtcnkbjipogngaaaDoorCNormOf4
set_option linter.all false
namespace Go.Proofs.YtcnkbjipogngaaaDoor.NormC
open Go Go.Proofs.YtcnkbjipogngaaaDoor.GH

def OfPost (L : GHeap) (g : Gram) (v : Value) (L' : GHeap) : Prop :=
  Le L L' ∧ ((chk g ≠ 0 ∧ v = .tuple #[.agg #[.int .i64 0, .int .i64 0, .int .i64 0, .bool false, .slice none 0 0, .slice none 0 0], .int .i64 (chk g)]) ∨
    (chk g = 0 ∧ ∃ (nl : List Bool) (rows : List (List Bool)) (f : Nat → List Pr) (o4 o5 : Sl), NullOk (nN g).toNat (rulesG g).flatten nl ∧ ChOk (Ste (rulesG g).flatten nl) (nN g).toNat rows ∧ PairsTo rows (rulesG g).flatten (nN g).toNat f ∧
      v = .tuple #[.agg #[.int .i64 g.terms, .int .i64 (nN g), .int .i64 g.start, .bool (decide (isN nl g.start)), .slice o4.a o4.n o4.c, .slice o5.a o5.n o5.c], .int .i64 0] ∧
      IsSl rPr L' o4 ((List.range (nN g).toNat).flatMap f) ∧ IsSl rOn L' o5 ((List.range (nN g).toNat).flatMap fun m => onesTo rows (nT g) m g.terms.toNat)))

theorem Of_spec {L : GHeap} {g : Gram} {sg : Sl} (hs : IsSl rRule L sg g.rules) : ACalls PP normal_Of.id [gramV g sg] L (OfPost L g) := by
  apply normal_Of.go
  refine (Check_ro hs).use ⟨_, rfl, bcNE (fun h => ⟨.refl L, .inl ⟨h, rfl⟩⟩) fun h0 => ?_⟩
  have hv := chk_zero.1 h0
  have hN := nN_le hv
  refine (divide_spec hv hs).mono ?_
  rintro v L1 ⟨hle1, b, sr, srl, sn, nl, rfl, hq⟩
  refine ⟨_, rfl, (chains_spec hv hq).mono ?_⟩
  rintro v L2 ⟨hle2, sc, rows, rfl, hsc, hch⟩
  have hq2 := hq.mono hle2.toLeM
  have m6 : L2.mem ((⟨b, 0, none⟩ : Addr).add 6) = some (.int .i64 (nN g)) := hq2.mem 6 _ rfl
  have m8 : L2.mem ((⟨b, 0, none⟩ : Addr).add 8) = some (.slice sn.a sn.n sn.c) := hq2.mem 8 _ rfl
  have hst := hv.start
  have hstN : g.start < nl.length := by
    rw [hq.ok.len]
    have := hv.terms
    have e : nN g = g.nons + (extS g.rules : Nat) + g.terms := rfl
    omega
  obtain ⟨w, hw, hwi⟩ := isN_get (nl := nl) hst.1 hstN
  have hwd : w = decide (isN nl g.start) := by
    cases w with
    | true => exact (decide_eq_true (hwi.2 rfl)).symm
    | false => exact (decide_eq_false fun h => by cases hwi.1 h).symm
  obtain ⟨a0, cs0, ha0, hK0, hc0⟩ := hq2.nulls.at_ _ _ hw
  obtain rfl := hK0
  have m40 := reads_one hc0
  have pt : ∀ {k : Addr → Prop}, k a0 → ptrK sn.a k := fun h => by rw [ha0]; exact h
  have inb : 0 ≤ g.start ∧ g.start < ((sn.n : Nat) : Int) := ⟨hst.1, by rw [hq2.nulls.n]; exact hstN⟩
  refine ⟨sc, rfl, ?_⟩
  have leaf : normal_Of.c7 (OfPost L g) (some ⟨b, 0, none⟩) sc g.terms g.nons g.start sg 0 0 0 false ⟨none, 0, 0⟩ ⟨none, 0, 0⟩ g.terms (nN g) g.start w ⟨none, 0, 0⟩ ⟨none, 0, 0⟩ L2 := by
    apply normal_Of.go7
    refine ⟨_, m6, ?_⟩
    have hNn : (((nN g).toNat : Nat) : Int) = nN g := by omega
    have := of_outer (K := OfPost L g) (L0 := L) (Lb := L2) (g3 := sg) (u0 := 0) (u1 := 0) (u2 := 0) (u3 := false) (u4 := ⟨none, 0, 0⟩) (u5 := ⟨none, 0, 0⟩) (o0 := g.terms) (o1 := nN g) (o2 := g.start) (o3 := w) hv hq2 hsc hch.toTab ?_ 0 (Nat.zero_le _) L2 ⟨none, 0, 0⟩ ⟨none, 0, 0⟩ (fun _ => []) (.refl _) (hle1.trans hle2) ⟨fun m hm => absurd hm (Nat.not_lt_zero _), fun m hm => absurd hm (Nat.not_lt_zero _), fun m hm => absurd hm (Nat.not_lt_zero _)⟩ (.nil _ _ _) (.nil _ _ _) (fun h => absurd h (Nat.lt_irrefl 0))
    · rw [hNn] at this; exact this
    · intro L3 o4 o5 f k1 k2 k3 k4
      exact ⟨k1, .inr ⟨h0, nl, rows, f, o4, o5, hq.ok, hch, k2, by rw [hwd], k3, k4⟩⟩
  exact ⟨⟨nN g, m6, ⟨sn, m8, pt ⟨inb, ⟨w, m40, leaf⟩, w, m40, leaf⟩⟩, sn, m8, pt ⟨inb, w, m40, leaf⟩⟩,
    ⟨sn, m8, pt ⟨inb, ⟨nN g, m6, ⟨w, m40, leaf⟩, w, m40, leaf⟩, ⟨w, m40, ⟨nN g, m6, leaf⟩, nN g, m6, leaf⟩, nN g, m6, w, m40, leaf⟩⟩,
    nN g, m6, sn, m8, pt ⟨inb, w, m40, leaf⟩⟩
end Go.Proofs.YtcnkbjipogngaaaDoor.NormC
