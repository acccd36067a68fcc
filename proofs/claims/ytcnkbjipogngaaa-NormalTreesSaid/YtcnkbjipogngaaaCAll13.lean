/- Contracts of the program's functions. -/
import Derived.Test.YtcnkbjipogngaaaCAll7
import Derived.Test.YtcnkbjipogngaaaLibD
set_option linter.all false
namespace Go.Proofs.Ytcnkbjipogngaaa.NormT
open Go Go.Proofs.Ytcnkbjipogngaaa.GH

variable {g : Gram}

def zT : Value := .agg #[.int .i64 0, .int .i64 0, .slice none 0 0]
inductive DownR (g : Gram) (t : Tree) (v : Value) (L' : GHeap) : Prop
  | bad : treeE g t ≠ 0 → v = .tuple #[zT, .int .i64 (treeE g t)] → DownR g t v L'
  | leaf : treeE g t = 0 → t.rule < 0 → v = .tuple #[zT, .int .i64 3] → DownR g t v L'
  | none : treeE g t = 0 → ¬ t.rule < 0 → dn g t = none → v = .tuple #[zT, .int .i64 5] → DownR g t v L'
  | some (x : Tree) (sx : Sl) : treeE g t = 0 → ¬ t.rule < 0 → dn g t = some x → v = .tuple #[treeV x sx, .int .i64 0] → IsSl rTree L' sx x.kids → DownR g t v L'

theorem Down_spec (hv : Valid g) {L : GHeap} {sg s : Sl} {t : Tree} (hg : IsSl rRule L sg g.rules) (hs : IsSl rTree L s t.kids) (hy : treeE g t = 0 → SymOk g.terms g.nons (rootS g t)) :
    ACalls PP normal_Down.id [gramV g sg, treeV t s] L fun v L' => Le L L' ∧ DownR g t v L' := by
  apply normal_Down.go
  refine (Check_ro hg).use ⟨_, rfl, bcNE (fun h => absurd (chk_zero.2 hv) h) fun _ => (Tree_spec hg hs).mono ?_⟩
  rintro v L1 ⟨rfl, hle1⟩
  refine ⟨_, rfl, bcNE (fun h => ⟨hle1, .bad h rfl⟩) fun he => bcD (fun hr => ⟨hle1, .leaf he hr rfl⟩) fun hr => ?_⟩
  have hw := (treeE_wt he).1
  have hyo := hy he
  have leaf : ∀ (L2 : GHeap) (b : Nat) (sr srl sn : Sl) (nl : List Bool), Le L1 L2 → DivQ L2 b g sg sr srl sn nl →
      ACalls PP normal_parts_down.id [.pointer (some ⟨b, 0, none⟩), treeV t s] L2 fun v LL => ∃ x31a_0, ∃ x31a_1, ∃ x31a_2 : Sl, ∃ x31b : Bool, v = .tuple #[.agg #[.int .i64 x31a_0, .int .i64 x31a_1, .slice x31a_2.a x31a_2.n x31a_2.c], .bool x31b] ∧
        normal_Down.c10 (fun v L' => Le L L' ∧ DownR g t v L') x31b 0 0 ⟨none, 0, 0⟩ x31a_0 x31a_1 x31a_2 LL := by
    intro L2 b sr srl sn nl hle2 hq
    have hl := hle1.trans hle2
    refine (down_spec hv t _ hw hyo ⟨hq, hg.mono hl.toLeM⟩ (hs.mono hl.toLeM)).mono ?_
    rintro v L3 ⟨hle3, x, sx, rfl, hx, hxo⟩
    refine ⟨_, _, sx, _, rfl, ?_⟩
    apply normal_Down.go10
    cases hd : dn g t with
    | none =>
      refine bcT rfl ?_
      apply normal_Down.go11
      exact ⟨hl.trans hle3, .none he hr hd rfl⟩
    | some z =>
      obtain rfl := hxo z hd
      refine bcF rfl ?_
      apply normal_Down.go12
      exact ⟨hl.trans hle3, .some z sx he hr hd rfl hx⟩
  refine ⟨(divide_spec hv (hg.mono hle1.toLeM)).mono ?_, (divide_spec hv (hg.mono hle1.toLeM)).mono ?_⟩
  · rintro v L2 ⟨hle2, b, sr, srl, sn, nl, rfl, hq⟩
    exact ⟨_, rfl, leaf L2 b sr srl sn nl hle2 hq, leaf L2 b sr srl sn nl hle2 hq⟩
  · rintro v L2 ⟨hle2, b, sr, srl, sn, nl, rfl, hq⟩
    exact ⟨_, rfl, leaf L2 b sr srl sn nl hle2 hq⟩
end Go.Proofs.Ytcnkbjipogngaaa.NormT

namespace Go.Proofs.Ytcnkbjipogngaaa
open Go Go.Proofs.Ytcnkbjipogngaaa.GH

theorem nodes_kids {ks : List Tree} {i : Nat} (h : i < ks.length) : ks[i].nodes ≤ nodesL ks := nodes_mem (List.getElem_mem h)

mutual
def eqT : Tree → Tree → Bool
  | .mk r t ks, .mk r' t' ks' => (r == r') && ((t == t') && ((ks.length == ks'.length) && eqTs ks ks'))
def eqTs : List Tree → List Tree → Bool
  | k :: ks, k' :: ks' => eqT k k' && eqTs ks ks'
  | _, _ => true
end

mutual
theorem eqT_iff : ∀ {a b : Tree}, eqT a b = true ↔ a = b
  | .mk r t ks, .mk r' t' ks' => by
    simp only [eqT, Bool.and_eq_true, beq_iff_eq, Tree.mk.injEq]
    constructor
    · rintro ⟨h1, h2, h3, h4⟩
      exact ⟨h1, h2, (eqTs_iff (by simpa using h3)).1 h4⟩
    · rintro ⟨h1, h2, h3⟩
      subst h3
      exact ⟨h1, h2, by simp, (eqTs_iff rfl).2 rfl⟩
theorem eqTs_iff : ∀ {xs ys : List Tree}, xs.length = ys.length → (eqTs xs ys = true ↔ xs = ys)
  | [], [], _ => by simp [eqTs]
  | a :: xs, b :: ys, h => by
    simp only [eqTs, Bool.and_eq_true, List.cons.injEq]
    rw [eqT_iff, eqTs_iff (by simpa using h)]
  | [], _ :: _, h => by simp at h
  | _ :: _, [], h => by simp at h
end
end Go.Proofs.Ytcnkbjipogngaaa

