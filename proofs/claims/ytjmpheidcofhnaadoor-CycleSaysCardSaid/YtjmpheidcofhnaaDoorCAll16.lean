/- Contracts of the program's functions. -/
import Derived.Test.YtjmpheidcofhnaaDoorCAll9
import Derived.Test.YtjmpheidcofhnaaDoorCAll15
set_option linter.all false
namespace Go.Proofs.YtjmpheidcofhnaaDoor
open Go Go.Proofs.YtjmpheidcofhnaaDoor.GH

theorem Stp.pas {g : Gram} {l : List (Int × Int)} (h : Stp g true l) {x : Int × Int} (hx : x ∈ l) : ∃ (i : Nat) (r : Rule), x.1 = (i : Int) ∧ g.rules[i]? = some r ∧ Pas g r x.2 := by
  obtain ⟨i, r, j, h1, h2, h3, h4, h5⟩ := h.okx x hx
  exact ⟨i, r, h1, h2, j, h3, h4, h5 rfl⟩
theorem Stp.has {g : Gram} {l : List (Int × Int)} (h : Stp g true l) {i : Nat} {r : Rule} {b : Int} (h1 : g.rules[i]? = some r) (hp : Pas g r b) : ((i : Int), b) ∈ l := by
  obtain ⟨j, a1, a2, a3⟩ := hp
  exact h.exx i r j b h1 a1 a2 fun _ => a3

/-- What stands in the map: for each pair a list of rules. -/
def EntG (g : Gram) (H : GHeap) (p : Nat) (f : Value → Option Value) (F : Int → Int → Option (List Int)) : Prop := ∀ n m : Int, (F n m = none → f (ky n m) = none) ∧
  ∀ rs, F n m = some rs → (∃ s : Sl, f (ky n m) = some (.slice s.a s.n s.c) ∧ IsSl rI H s rs) ∧ RWx g rs n m ∧ rs.length = p
theorem EntG.mono {g : Gram} {H H' : GHeap} {p : Nat} {f : Value → Option Value} {F : Int → Int → Option (List Int)} (h : EntG g H p f F) (hl : LeM H H') : EntG g H' p f F := fun n m =>
  ⟨(h n m).1, fun rs e => let ⟨⟨s, a, b⟩, c⟩ := (h n m).2 rs e; ⟨⟨s, a, b.mono hl⟩, c⟩⟩
def putF (F : Int → Int → Option (List Int)) (n m : Int) (rs : List Int) : Int → Int → Option (List Int) := fun n' m' => if n' = n ∧ m' = m then some rs else F n' m'
theorem EntG.put {g : Gram} {H : GHeap} {p : Nat} {f : Value → Option Value} {F : Int → Int → Option (List Int)} (h : EntG g H p f F) {n m : Int} {s : Sl} {rs : List Int} (hs : IsSl rI H s rs) (hw : RWx g rs n m) (hl : rs.length = p) : EntG g H p (fput f (ky n m) (.slice s.a s.n s.c)) (putF F n m rs) := by
  intro n' m'
  unfold putF
  by_cases hk : n' = n ∧ m' = m
  · obtain ⟨rfl, rfl⟩ := hk
    rw [if_pos ⟨rfl, rfl⟩, fput_self]
    exact ⟨fun e => (by cases e), fun rs' e => by cases e; exact ⟨⟨s, rfl, hs⟩, hw, hl⟩⟩
  · rw [if_neg hk, fput_ne fun e => hk (ky_inj e)]
    exact h n' m'

/-- A list that stands there is not behind another. -/
def LeE (F : Int → Int → Option (List Int)) (n m : Int) (rs0 : List Int) : Prop := ∃ rs, F n m = some rs ∧ leL rs rs0
theorem LeE.put {F : Int → Int → Option (List Int)} {n m a b : Int} {rs r0 : List Int} (h : LeE F a b r0) (hs : ∀ old, F n m = some old → leL rs old) : LeE (putF F n m rs) a b r0 := by
  obtain ⟨r1, h1, h2⟩ := h
  unfold LeE putF
  by_cases hk : a = n ∧ b = m
  · obtain ⟨rfl, rfl⟩ := hk
    rw [if_pos ⟨rfl, rfl⟩]
    exact ⟨rs, rfl, leL_trans (hs r1 h1) h2⟩
  · rw [if_neg hk]; exact ⟨r1, h1, h2⟩

/-- The ways of length p. -/
structure RInvL (g : Gram) (p : Nat) (ws : List CWy) : Prop where
  ok : ∀ w ∈ ws, (0 ≤ w.1 ∧ w.1 < g.nons) ∧ (0 ≤ w.2.1 ∧ w.2.1 < g.nons) ∧ RWx g w.2.2 w.1 w.2.1 ∧ w.2.2.length = p
  least : ∀ w ∈ ws, ∀ rs', RWx g rs' w.1 w.2.1 → rs'.length = p → leL w.2.2 rs'
  all : ∀ n m : Int, 0 ≤ n → n < g.nons → Walk (PasE g) p n m → ∃ rs, (n, m, rs) ∈ ws
  no : ∀ (q : Nat) (b : Int), 1 ≤ q → q ≤ p → ¬ Walk (PasE g) q b b

def CycPostL (g : Gram) (L : GHeap) (v : Value) (L' : GHeap) : Prop :=
  Le L L' ∧ ((∃ (so : Sl) (rs : List Int) (a : Int), v = .tuple #[.slice so.a so.n so.c, .int .i64 0] ∧ IsSl rI L' so rs ∧ rs ≠ [] ∧ (rs.length : Int) ≤ g.nons ∧ RWx g rs a a ∧ (∀ (q : Nat) (b : Int), 1 ≤ q → q < rs.length → ¬ Walk (PasE g) q b b) ∧
      ∀ (rs' : List Int) (a' : Int), rs'.length = rs.length → RWx g rs' a' a' → leL rs rs') ∨
    (v = .tuple #[.slice none 0 0, .int .i64 5] ∧ ∀ a, ¬ OnLoop (PasE g) a))

section
variable {L Lb : GHeap} {g : Gram} {sg sl : Sl} {l : List (Int × Int)}

structure BInvL (g : Gram) (H : GHeap) (p : Nat) (F : Int → Int → Option (List Int)) (n m : Int) (best : Sl) : Prop where
  e : (Option.isNone best.a = true ∧ ∀ b : Int, 0 ≤ b → Bef n m b b → b < g.nons → F b b = none) ∨ (Option.isNone best.a = false ∧ ∃ rs b, IsSl rI H best rs ∧ rs ≠ [] ∧ RWx g rs b b ∧ rs.length = p ∧
    ∀ (b' : Int) rs', 0 ≤ b' → Bef n m b' b' → b' < g.nons → F b' b' = some rs' → leL rs rs')
structure NInvL (g : Gram) (p : Nat) (F : Int → Int → Option (List Int)) (n m : Int) (ws : List CWy) : Prop where
  ok : ∀ w ∈ ws, (0 ≤ w.1 ∧ w.1 < g.nons) ∧ (0 ≤ w.2.1 ∧ w.2.1 < g.nons) ∧ F w.1 w.2.1 = some w.2.2
  all : ∀ n' m' : Int, 0 ≤ n' → 0 ≤ m' → m' < g.nons → Bef n m n' m' → ∀ rs, F n' m' = some rs → (n', m', rs) ∈ ws

/-- What a round leaves. -/
theorem CycL_c29 (hv : Valid g) {p : Nat} (hp : (p : Int) < g.nons) {Lm : GHeap} (hle : Le L Lb) {r : Nat} {f : Value → Option Value} {F : Int → Int → Option (List Int)} (hM : CyM Lb Lm r f) (hent : EntG g Lm (p + 1) f F)
    (hall : ∀ n m : Int, 0 ≤ n → n < g.nons → Walk (PasE g) (p + 1) n m → ∃ rs, F n m = some rs) (hleast : ∀ (n m : Int) rs, 0 ≤ n → n < g.nons → F n m = some rs → ∀ rs', RWx g rs' n m → rs'.length = p + 1 → leL rs rs')
    (hno : ∀ (q : Nat) (b : Int), 1 ≤ q → q ≤ p → ¬ Walk (PasE g) q b b)
    (hround : ∀ (L2 : GHeap) (sw : Sl) (ws : List CWy), CyS Lb L2 → IsSl rWay L2 sw ws → ws.length ≤ 100 → RInvL g (p + 1) ws → cycle_Cyclic.c11 (CycPostL g L) sl sw g.nons (((p + 1 : Nat) : Nat) : Int) g.terms g.nons g.start sg L2) :
    ∀ n : Nat, n ≤ g.nons.toNat → ∀ (L2 : GHeap) (best sx : Sl) (ws : List CWy), Le Lm L2 → BInvL g L2 (p + 1) F n 0 best → Own Lm rWay L2 sx ws → NInvL g (p + 1) F n 0 ws → ws.length ≤ n * 10 →
      cycle_Cyclic.c29 (CycPostL g L) sl (some r) sx best g.nons ((p : Nat) : Int) g.nons ((n : Nat) : Int) g.terms g.nons g.start sg L2 := by
  have hnn := hv.nons
  have hE : ∀ a b, PasE g a b → 0 ≤ b ∧ b < g.nons := fun a b h => (PasE.bound hv h).2
  refine down ?_ ?_
  · intro L2 best sx ws hle2 hB ho hN hlen
    apply cycle_Cyclic.go29
    refine bcD (fun h => absurd h (by omega)) fun _ => ?_
    rcases hB.e with ⟨h1, h2⟩ | ⟨h1, rs, b, h3, h4, h5, h6, h7⟩
    · refine bcN (bcT h1 ?_)
      rw [add_one (by omega)]
      refine hround L2 sx ws (hM.toCyS.up hle2) ho.sl (by omega) ⟨fun w hw => ?_, fun w hw rs' hr' hl' => ?_, fun n m h0 h1' hw => ?_, fun q b hq hq' hw => ?_⟩
      · obtain ⟨a1, a2, a3⟩ := hN.ok w hw
        obtain ⟨_, a4, a5⟩ := (hent _ _).2 _ a3
        exact ⟨a1, a2, a4, a5⟩
      · obtain ⟨a1, a2, a3⟩ := hN.ok w hw
        exact hleast _ _ _ a1.1 a1.2 a3 rs' hr' hl'
      · have hm : 0 ≤ m ∧ m < g.nons := by
          obtain ⟨c, _, he⟩ := hw
          exact hE _ _ he
        obtain ⟨rs, hrs⟩ := hall n m h0 h1' hw
        exact ⟨rs, hN.all n m h0 hm.1 hm.2 (.inl (by omega)) rs hrs⟩
      · rcases Nat.lt_or_eq_of_le hq' with h | rfl
        · exact hno q b hq (by omega) hw
        · have hm : 0 ≤ b ∧ b < g.nons := by
            obtain ⟨c, _, he⟩ := hw
            exact hE _ _ he
          obtain ⟨rs, hrs⟩ := hall b b hm.1 hm.2 hw
          rw [h2 b hm.1 (.inl (by omega)) hm.2] at hrs
          cases hrs
    · refine bcN (bcF h1 ⟨(hle.trans hM.toCyS.le).trans hle2, .inl ⟨best, rs, b, rfl, h3, h4, by omega, h5, fun q b hq hq' => hno q b hq (by omega), fun rs' a' hl' hr' => ?_⟩⟩)
      have hwk := hr'.walk
      rw [hl', h6] at hwk
      have hm : 0 ≤ a' ∧ a' < g.nons := by
        obtain ⟨c, _, he⟩ := hwk
        exact hE _ _ he
      obtain ⟨r1, hr1⟩ := hall a' a' hm.1 hm.2 hwk
      exact leL_trans (h7 a' r1 hm.1 (.inl (by omega)) hm.2 hr1) (hleast a' a' r1 hm.1 hm.2 hr1 rs' hr' (by omega))
  · intro n hn ihn L2 best sx ws hle2 hB ho hN hlen
    apply cycle_Cyclic.go29
    refine bcD (fun _ => ?_) fun h => absurd (by omega) h
    have inner : ∀ m : Nat, m ≤ g.nons.toNat → ∀ (L2 : GHeap) (best sx : Sl) (ws : List CWy), Le Lm L2 → BInvL g L2 (p + 1) F n m best → Own Lm rWay L2 sx ws → NInvL g (p + 1) F n m ws → ws.length ≤ n * 10 + m →
        cycle_Cyclic.c32 (CycPostL g L) sl (some r) sx best ((n : Nat) : Int) g.nons ((p : Nat) : Int) g.nons ((n : Nat) : Int) g.nons ((m : Nat) : Int) g.terms g.nons g.start sg L2 := by
      refine down ?_ ?_
      · intro L2 best sx ws hle2 hB ho hN hlen
        apply cycle_Cyclic.go32
        refine bcD (fun h => absurd h (by omega)) fun _ => ?_
        rw [add_one (by omega)]
        have hbef : ∀ a b : Int, b < g.nons → Bef ((n + 1 : Nat) : Int) 0 a b → 0 ≤ b → Bef n g.nons.toNat a b := fun a b h1 h2 h3 => by
          unfold Bef at *
          omega
        refine ihn L2 best sx ws hle2 ⟨?_⟩ ho ⟨hN.ok, fun n' m' h0 h1 h2 hb => hN.all n' m' h0 h1 h2 (hbef _ _ h2 hb h1)⟩ (by omega)
        exact hB.e.imp (fun ⟨a, b⟩ => ⟨a, fun x h0 hb hx => b x h0 (hbef x x hx hb h0) hx⟩) fun ⟨a, rs, b, c1, c2, c3, c4, c5⟩ => ⟨a, rs, b, c1, c2, c3, c4, fun b' rs' h0 hb hx => c5 b' rs' h0 (hbef b' b' hx hb h0) hx⟩
      · intro m hm ihm L2 best sx ws hle2 hB ho hN hlen
        have hMm := hM.up hle2
        have hkey := ky_key (n := (n : Int)) (m := (m : Int)) (by omega) (by omega)
        have bef : ∀ a b : Int, Bef n ((m + 1 : Nat) : Int) a b → Bef n m a b ∨ (a = n ∧ b = m) := fun a b h => by unfold Bef at *; omega
        -- on to the next pair
        have c39 : ∀ (L3 : GHeap) (best sx : Sl) (ws : List CWy), Le Lm L3 → BInvL g L3 (p + 1) F n ((m + 1 : Nat) : Int) best → Own Lm rWay L3 sx ws → NInvL g (p + 1) F n ((m + 1 : Nat) : Int) ws → ws.length ≤ n * 10 + (m + 1) →
            cycle_Cyclic.c39 (CycPostL g L) sl (some r) sx best ((n : Nat) : Int) g.nons ((p : Nat) : Int) g.nons ((n : Nat) : Int) g.nons ((m : Nat) : Int) g.terms g.nons g.start sg L3 := by
          intro L3 best sx ws a1 a2 a3 a4 a5
          apply cycle_Cyclic.go39
          unfold cycle_Cyclic.t39
          rw [add_one (by omega)]
          exact ihm L3 best sx ws a1 a2 a3 a4 a5
        apply cycle_Cyclic.go32
        refine bcD (fun _ => ?_) fun h => absurd (by omega) h
        cases hF : F n m with
        | none =>
          have hf := (hent n m).1 hF
          refine ⟨⟨none, 0, 0⟩, false, look_of mapT_map_2_int_Lint.ty (m := some r) hkey hMm.map (by rw [hf]; rfl) (by rw [hf]; rfl), bcN (bcF rfl ?_)⟩
          have hB' : BInvL g L2 (p + 1) F n ((m + 1 : Nat) : Int) best := ⟨by
            rcases hB.e with ⟨a, b⟩ | ⟨a, rs, b, c1, c2, c3, c4, c5⟩
            · refine .inl ⟨a, fun x h0 hb hx => ?_⟩
              rcases bef x x hb with h | ⟨h, h'⟩
              · exact b x h0 h hx
              · rw [show F x x = F n m by rw [← h, ← h']]; exact hF
            · refine .inr ⟨a, rs, b, c1, c2, c3, c4, fun b' rs' h0 hb hx hs => ?_⟩
              rcases bef b' b' hb with h | ⟨h, h'⟩
              · exact c5 b' rs' h0 h hx hs
              · rw [show F b' b' = F n m by rw [← h, ← h'], hF] at hs; cases hs⟩
          refine c39 L2 best sx ws hle2 hB' ho ⟨hN.ok, fun n' m' h0 h1 h2 hb rs hs => ?_⟩ (by omega)
          rcases bef n' m' hb with h | ⟨rfl, rfl⟩
          · exact hN.all n' m' h0 h1 h2 h rs hs
          · rw [hF] at hs; cases hs
        | some rs =>
          obtain ⟨⟨s, hf, hs⟩, hw, hrl⟩ := (hent n m).2 rs hF
          have hs2 := hs.mono hle2.toLeM
          have hrne : rs ≠ [] := by intro e; rw [e] at hrl; cases hrl
          refine ⟨s, true, look_of mapT_map_2_int_Lint.ty (m := some r) hkey hMm.map (by rw [hf]; rfl) (by rw [hf]; rfl), bcN (bcT rfl ?_)⟩
          -- one more way
          have c38 : ∀ best : Sl, BInvL g L2 (p + 1) F n ((m + 1 : Nat) : Int) best → cycle_Cyclic.c38 (CycPostL g L) sl (some r) sx best ((n : Nat) : Int) ((m : Nat) : Int) s g.nons ((p : Nat) : Int) g.nons ((n : Nat) : Int) g.nons ((m : Nat) : Int) g.terms g.nons g.start sg L2 := by
            intro best hB'
            apply cycle_Cyclic.go38
            refine Own.append (R := rWay) (bytes := 40) (m := 1) (ys := [((n : Int), (m : Int), rs)]) ho hle2 (Cells.cons (c := [.int .i64 (n : Int), .int .i64 (m : Int), .slice s.a s.n s.c]) ⟨s, rfl, hs2⟩ .nil) rfl (.inl (by omega)) fun s3 L3 g1 g2 g3 _ _ => ?_
            refine c39 L3 best s3 _ g1 ⟨hB'.e.imp id fun ⟨a, rs, b, c1, c2⟩ => ⟨a, rs, b, c1.mono g2, c2⟩⟩ g3 ⟨fun w hw' => ?_, fun n' m' h0 h1 h2 hb rs' hs' => ?_⟩ (by rw [List.length_append, List.length_singleton]; omega)
            · rcases List.mem_append.1 hw' with h | h
              · exact hN.ok w h
              · rw [List.mem_singleton] at h; subst h
                exact ⟨⟨by simp only; omega, by simp only; omega⟩, ⟨by simp only; omega, by simp only; omega⟩, hF⟩
            · rcases bef n' m' hb with h | ⟨rfl, rfl⟩
              · exact List.mem_append_left _ (hN.all n' m' h0 h1 h2 h rs' hs')
              · rw [hF] at hs'; cases hs'
                exact List.mem_append_right _ (List.mem_singleton.2 rfl)
          have keepN : (n : Int) ≠ m → BInvL g L2 (p + 1) F n ((m + 1 : Nat) : Int) best := fun h => ⟨by
            rcases hB.e with ⟨a, b⟩ | ⟨a, rs1, b, c1, c2, c3, c4, c5⟩
            · refine .inl ⟨a, fun x h0 hb hx => ?_⟩
              rcases bef x x hb with h1 | ⟨h1, h2⟩
              · exact b x h0 h1 hx
              · exact absurd (h1.symm.trans h2) h
            · refine .inr ⟨a, rs1, b, c1, c2, c3, c4, fun b' rs' h0 hb hx hs => ?_⟩
              rcases bef b' b' hb with h1 | ⟨h1, h2⟩
              · exact c5 b' rs' h0 h1 hx hs
              · exact absurd (h1.symm.trans h2) h⟩
          have take : (n : Int) = m → (∀ (b' : Int) rs', 0 ≤ b' → Bef n m b' b' → b' < g.nons → F b' b' = some rs' → leL rs rs') → BInvL g L2 (p + 1) F n ((m + 1 : Nat) : Int) s := fun e hlt =>
            ⟨.inr ⟨slice_some hs2 hrne, rs, n, hs2, hrne, by rw [← e] at hw; exact hw, hrl, fun b' rs' h0 hb hx hs' => by
              rcases bef b' b' hb with h1 | ⟨h1, h2⟩
              · exact hlt b' rs' h0 h1 hx hs'
              · rw [show F b' b' = F n m by rw [← h1, ← h2], hF] at hs'; cases hs'
                exact leL_refl _⟩⟩
          refine bcE (fun e => bcI (fun hnil => ?_) fun hnil => ?_) fun e => c38 best (keepN e)
          · apply cycle_Cyclic.go37
            refine c38 s (take e fun b' rs' h0 hb hx hs' => ?_)
            rcases hB.e with ⟨a, b⟩ | ⟨a, _⟩
            · rw [b b' h0 hb hx] at hs'; cases hs'
            · rw [a] at hnil; cases hnil
          · rcases hB.e with ⟨a, _⟩ | ⟨a, rs', b', h3, h4, h5, h6, h7⟩
            · rw [a] at hnil; cases hnil
            · obtain ⟨k, k1, k2, hk⟩ := CompareLex_ro hs2 h3 (by omega) (by omega)
              refine hk.use ⟨_, rfl, bcD (fun hneg => ?_) fun hneg => c38 best ⟨.inr ⟨a, rs', b', h3, h4, h5, h6, fun b'' rs'' h0 hb hx hs'' => ?_⟩⟩⟩
              · apply cycle_Cyclic.go37
                exact c38 s (take e fun b'' rs'' h0 hb hx hs'' => leL_trans (k1 hneg) (h7 b'' rs'' h0 hb hx hs''))
              · rcases bef b'' b'' hb with h1 | ⟨h1, h2⟩
                · exact h7 b'' rs'' h0 h1 hx hs''
                · rw [show F b'' b'' = F n m by rw [← h1, ← h2], hF] at hs''; cases hs''
                  exact k2 hneg
    exact inner 0 (Nat.zero_le _) L2 best sx ws hle2 hB ho hN (by omega)

/-- A round. -/
theorem CycL_c15 (hv : Valid g) (hle : Le L Lb) (hsg : IsSl rRule Lb sg g.rules) (hl : IsSl rS2 Lb sl l) (hst : Stp g true l) {p : Nat} (hp : (p : Int) < g.nons) {Lw : GHeap} {sw : Sl} {ws : List CWy} (hw : IsSl rWay Lw.nob sw ws) (hwl : ws.length ≤ 100) (hR : RInvL g p ws) {r : Nat}
    (hround : ∀ (L2 : GHeap) (sw : Sl) (ws : List CWy), CyS Lb L2 → IsSl rWay L2 sw ws → ws.length ≤ 100 → RInvL g (p + 1) ws → cycle_Cyclic.c11 (CycPostL g L) sl sw g.nons (((p + 1 : Nat) : Nat) : Int) g.terms g.nons g.start sg L2) :
    ∀ i, i ≤ ws.length → ∀ (L2 : GHeap) (f : Value → Option Value) (F : Int → Int → Option (List Int)), LeM Lw.nob L2.nob → CyM Lb L2 r f → EntG g L2.nob (p + 1) f F → (∀ w ∈ ws.take i, ∀ x ∈ l, ∀ ru, g.rules[x.1.toNat]? = some ru → ru.left = w.2.1 → LeE F w.1 x.2 (w.2.2 ++ [x.1])) →
      cycle_Cyclic.c15 (CycPostL g L) sl (some r) ⟨none, 0, 0⟩ g.nons ((p : Nat) : Int) sw ((sw.n : Nat) : Int) ((i : Nat) : Int) g.terms g.nons g.start sg L2 := by
  have hnn := hv.nons
  have hE : ∀ a b, PasE g a b → 0 ≤ b ∧ b < g.nons := fun a b h => (PasE.bound hv h).2
  refine down ?_ ?_
  · intro L2 f F hm hM hent hd
    rw [List.take_length] at hd
    apply cycle_Cyclic.go15
    refine bcD (fun h => absurd h (by rw [hw.n]; omega)) fun _ => ?_
    refine CycL_c29 hv hp hle hM (hent.mono nob_le) (fun n m h0 h1 hwk => ?_) (fun n m rs0 h0 h1 hF rs' hw' hl' => ?_) hR.no hround 0 (Nat.zero_le _) L2 ⟨none, 0, 0⟩ ⟨none, 0, 0⟩ [] (.refl _) ⟨.inl ⟨rfl, fun b h0 hb _ => by unfold Bef at hb; omega⟩⟩ (.nil _ _ _) ⟨fun w h => (by cases h), fun n m h0 h1 _ hb => by unfold Bef at hb; omega⟩ (by simp)
    · obtain ⟨c, h2, ru, hru, h6, h7⟩ := hwk
      obtain ⟨rs, h4⟩ := hR.all n c h0 h1 h2
      obtain ⟨j, hj⟩ := List.getElem?_of_mem hru
      obtain ⟨rs1, h8, _⟩ := hd _ h4 ((j : Int), m) (hst.has hj h7) ru (by simp only [Int.toNat_natCast]; exact hj) h6
      exact ⟨rs1, h8⟩
    · obtain ⟨rs1, c, j, ru, rfl, a1, a2, a3, a4, a5⟩ := hw'.last hl'
      obtain ⟨rs, h4⟩ := hR.all n c h0 h1 (by have := a1.walk; rwa [a5] at this)
      obtain ⟨rs2, h8, h9⟩ := hd _ h4 ((j : Int), m) (hst.has a2 a4) ru (by simp only [Int.toNat_natCast]; exact a2) a3
      rw [hF] at h8; cases h8
      have hok := hR.ok _ h4
      exact leL_trans h9 (leL_snoc (by simp only at hok ⊢; omega) (hR.least _ h4 rs1 a1 a5))
  · intro i hi ihi L2 f F hm hM hent hd
    rw [List.take_succ_eq_append_getElem hi] at ihi
    obtain ⟨⟨f0, f1⟩, ⟨a0, a1⟩, hwk, hwkl⟩ := hR.ok _ (List.getElem_mem hi)
    apply cycle_Cyclic.go15
    refine bcD (fun _ => ?_) fun h => absurd (by rw [hw.n]; omega) h
    refine (hw.mono (hm.trans nob_le)).get (List.getElem?_eq_getElem hi) fun a cs hK hc => ?_
    obtain ⟨sr, rfl, hsr2⟩ := hK
    -- the way's rules, wherever memory goes on
    have hsr : IsSl rI L2.nob sr ws[i].2.2 := nobI hsr2
    refine ⟨_, _, sr, hc, ?_⟩
    have key : ∀ j, j ≤ l.length → ∀ (L3 : GHeap) (f : Value → Option Value) (F : Int → Int → Option (List Int)), LeM L2.nob L3.nob → CyM Lb L3 r f → EntG g L3.nob (p + 1) f F → (∀ w ∈ ws.take i, ∀ x ∈ l, ∀ ru, g.rules[x.1.toNat]? = some ru → ru.left = w.2.1 → LeE F w.1 x.2 (w.2.2 ++ [x.1])) →
        (∀ x ∈ l.take j, ∀ ru, g.rules[x.1.toNat]? = some ru → ru.left = ws[i].2.1 → LeE F ws[i].1 x.2 (ws[i].2.2 ++ [x.1])) →
        cycle_Cyclic.c18 (CycPostL g L) sl (some r) ⟨none, 0, 0⟩ g.nons ((p : Nat) : Int) sw ((sw.n : Nat) : Int) ((i : Nat) : Int) sl ((sl.n : Nat) : Int) ((j : Nat) : Int) g.terms g.nons g.start sg ws[i].1 ws[i].2.1 sr L3 := by
      refine down ?_ ?_
      · intro L3 f F hm3 hM3 hent3 hd3 hj3
        rw [List.take_length] at hj3
        apply cycle_Cyclic.go18
        refine bcD (fun h => absurd h (by rw [hl.n]; omega)) fun _ => ?_
        rw [add_one (by omega)]
        refine ihi L3 f F (hm.trans hm3) hM3 hent3 fun w hw' x hx ru h1 h2 => ?_
        rcases List.mem_append.1 hw' with h | h
        · exact hd3 w h x hx ru h1 h2
        · rw [List.mem_singleton] at h; subst h
          exact hj3 x hx ru h1 h2
      · intro j hj ihj L3 f F hm3 hM3 hent3 hd3 hj3
        rw [List.take_succ_eq_append_getElem hj] at ihj
        have hlen := hst.len
        obtain ⟨k, ru, e1, e2, l0, l1, t0, t1, hed⟩ := hst.ok _ (List.getElem_mem hj)
        have hpas : Pas g ru l[j].2 := by
          obtain ⟨k', ru', b1, b2, b3⟩ := hst.pas (List.getElem_mem hj)
          have : k = k' := by omega
          subst this
          rw [e2] at b2; cases b2
          exact b3
        have hup := hM3.toCyS.le.toLeM
        -- on to the next step
        have c25 : ∀ (L4 : GHeap) (f : Value → Option Value) (F : Int → Int → Option (List Int)), LeM L2.nob L4.nob → CyM Lb L4 r f → EntG g L4.nob (p + 1) f F → (∀ w ∈ ws.take i, ∀ x ∈ l, ∀ ru, g.rules[x.1.toNat]? = some ru → ru.left = w.2.1 → LeE F w.1 x.2 (w.2.2 ++ [x.1])) →
            (∀ x ∈ l.take j, ∀ ru, g.rules[x.1.toNat]? = some ru → ru.left = ws[i].2.1 → LeE F ws[i].1 x.2 (ws[i].2.2 ++ [x.1])) → (ru.left = ws[i].2.1 → LeE F ws[i].1 l[j].2 (ws[i].2.2 ++ [l[j].1])) →
            cycle_Cyclic.c25 (CycPostL g L) sl (some r) ⟨none, 0, 0⟩ g.nons ((p : Nat) : Int) sw ((sw.n : Nat) : Int) ((i : Nat) : Int) sl ((sl.n : Nat) : Int) ((j : Nat) : Int) g.terms g.nons g.start sg ws[i].1 ws[i].2.1 sr L4 := by
          intro L4 f F b1 b2 b3 b4 b5 b6
          apply cycle_Cyclic.go25
          unfold cycle_Cyclic.t25
          rw [add_one (by omega)]
          refine ihj L4 f F b1 b2 b3 b4 fun x hx ru' h1 h2 => ?_
          rcases List.mem_append.1 hx with h | h
          · exact b5 x h ru' h1 h2
          · rw [List.mem_singleton] at h; subst h
            rw [e1, Int.toNat_natCast, e2] at h1
            cases h1
            exact b6 h2
        apply cycle_Cyclic.go18
        unfold cycle_Cyclic.t18
        simp only [and_self]
        refine bcD (fun _ => ?_) fun h => absurd (by rw [hl.n]; omega) h
        refine (hl.mono hup).get (List.getElem?_eq_getElem hj) fun a2 cs2 hK2 hc2 => ?_
        obtain rfl := hK2
        refine ⟨_, _, hc2, ?_⟩
        refine (hsg.mono hup).getI (r := l[j].1) (x := ru) (by rw [e1]; omega) (by rw [e1, Int.toNat_natCast]; exact e2) fun a3 cs3 hK3 hc3 => ?_
        obtain ⟨sq, rfl, _⟩ := hK3
        refine ⟨ru.left, by have := hc3.1; rwa [add_zero] at this, bcNE (fun hne => c25 L3 f F hm3 hM3 hent3 hd3 hj3 fun h => absurd h hne) fun heq => ?_⟩
        have hwl2 : ws[i].2.2.length ≤ 1048576 := by omega
        refine (CloneI_spec (hsr.mono (hm3.trans nob_le)) hwl2).mono ?_
        rintro v L4 ⟨s4, rfl, hle4, ho4⟩
        refine ⟨s4, rfl, ?_⟩
        refine Own.append (R := rI) (bytes := 8) (m := 1) (ys := [l[j].1]) ho4 hle4 (Cells.cons (c := [.int .i64 l[j].1]) rfl .nil) rfl (.inl (by omega)) fun s5 L5 hle5 _ ho5 _ _ => ?_
        have hM5 := hM3.up hle5
        have hent5 := hent3.mono hle5.nob.toLeM
        have hm5 := hm3.trans hle5.nob.toLeM
        have hw5 : RWx g (ws[i].2.2 ++ [l[j].1]) ws[i].1 l[j].2 := by rw [e1]; exact hwk.snoc e2 heq hpas
        have hl5 : (ws[i].2.2 ++ [l[j].1]).length = p + 1 := by rw [List.length_append, hwkl]; rfl
        have hkey := ky_key (n := ws[i].1) (m := l[j].2) (by omega) (by omega)
        have c24 : (∀ old, F ws[i].1 l[j].2 = some old → leL (ws[i].2.2 ++ [l[j].1]) old) → cycle_Cyclic.c24 (CycPostL g L) sl (some r) ⟨none, 0, 0⟩ s5 g.nons ((p : Nat) : Int) sw ((sw.n : Nat) : Int) ((i : Nat) : Int) sl ((sl.n : Nat) : Int) ((j : Nat) : Int) g.terms g.nons g.start sg ws[i].1 ws[i].2.1 sr ws[i].1 l[j].2 L5 := by
          intro hold
          apply cycle_Cyclic.go24
          obtain ⟨o, ho1, ho2⟩ := hM5.ob
          refine upd_of mapT_map_2_int_Lint.ty hkey hM5.n0 ho1 ho2 fun o' ho' => ?_
          refine c25 _ _ _ hm5 (hM5.upd ho') (hent5.put (nobI ho5.sl) hw5 hl5) (fun w hw' x hx ru' h1 h2 => (hd3 w hw' x hx ru' h1 h2).put hold) (fun x hx ru' h1 h2 => (hj3 x hx ru' h1 h2).put hold) fun _ => ⟨_, by unfold putF; rw [if_pos ⟨rfl, rfl⟩], leL_refl _⟩
        apply cycle_Cyclic.go22
        cases hF : F ws[i].1 l[j].2 with
        | none =>
          have hf := (hent5 _ _).1 hF
          refine ⟨⟨none, 0, 0⟩, false, look_of mapT_map_2_int_Lint.ty (m := some r) hkey hM5.map (by rw [hf]; rfl) (by rw [hf]; rfl), ?_⟩
          apply cycle_Cyclic.go23
          exact bcN (bcF rfl (c24 fun old h => by rw [hF] at h; cases h))
        | some rs =>
          obtain ⟨⟨s, hf, hs⟩, _, hrl⟩ := (hent5 _ _).2 rs hF
          refine ⟨s, true, look_of mapT_map_2_int_Lint.ty (m := some r) hkey hM5.map (by rw [hf]; rfl) (by rw [hf]; rfl), ?_⟩
          apply cycle_Cyclic.go23
          obtain ⟨k, k1, k2, hk⟩ := CompareLex_ro ho5.sl (hs.mono nob_le) (by omega) (by omega)
          exact bcN (bcT rfl (hk.use ⟨_, rfl, bcD (fun hneg => c24 fun old h => by rw [hF] at h; cases h; exact k1 hneg) fun hneg => c25 L5 f F hm5 hM5 hent5 hd3 hj3 fun _ => ⟨rs, hF, k2 hneg⟩⟩))
    exact key 0 (Nat.zero_le _) L2 f F (.refl _) hM hent hd fun x hx => by simp at hx

end

theorem CyclicL_spec {L : GHeap} {g : Gram} {sg : Sl} (hv : Valid g) (hs : IsSl rRule L sg g.rules) : ACalls PP cycle_Cyclic.id [gramV g sg] L (CycPostL g L) := by
  have hnn := hv.nons
  apply cycle_Cyclic.go
  refine (steps_spec (whole := true) hv hs).mono ?_
  rintro v L1 ⟨hle1, sl, l, rfl, hl, hst⟩
  have hs1 := hs.mono hle1.toLeM
  have hE : ∀ a b, PasE g a b → 0 ≤ b ∧ b < g.nons := fun a b h => (PasE.bound hv h).2
  refine ⟨sl, 0, rfl, bcNE (fun h => absurd rfl h) fun _ => ?_⟩
  -- the rounds
  have rounds : ∀ p, p ≤ g.nons.toNat → ∀ (L2 : GHeap) (sw : Sl) (ws : List CWy), CyS L1 L2 → IsSl rWay L2 sw ws → ws.length ≤ 100 → RInvL g p ws → cycle_Cyclic.c11 (CycPostL g L) sl sw g.nons ((p : Nat) : Int) g.terms g.nons g.start sg L2 := by
    refine down ?_ ?_
    · intro L2 sw ws hS hw hwl hR
      apply cycle_Cyclic.go11
      refine bcD (fun h => absurd h (by omega)) fun _ => ⟨hle1.trans hS.le, .inr ⟨rfl, fun a ha => ?_⟩⟩
      obtain ⟨q, b, h1, h2, h3⟩ := short_loop (nn := g.nons.toNat) (fun a b h => by have := hE a b h; omega) ha
      exact hR.no q b h1 h2 h3
    · intro p hp ihp L2 sw ws hS hw hwl hR
      apply cycle_Cyclic.go11
      refine bcD (fun _ => ?_) fun h => absurd (by omega) h
      intro r hr hr0
      refine CycL_c15 (r := r) hv hle1 hs1 hl hst (by omega) (nobWay hw) hwl hR (fun L3 sw3 ws3 h1 h2 h3 h4 => ihp L3 sw3 ws3 h1 h2 h3 h4) 0 (Nat.zero_le _) _ (fun _ => none) (fun _ _ => none) (.refl _) ⟨⟨hS.nl, fun r' o e => ?_⟩, hr0, ?_, ⟨_, by show (if r = r then _ else _) = _; rw [if_pos rfl], MapO.nil⟩⟩ (fun n m => ⟨fun _ => rfl, fun rs e => by cases e⟩) fun w hw' => by simp at hw'
      · show (if r' = r then _ else L2.obj r') = _
        rw [if_neg (fun e' => by have := hS.ot r' o e; rw [e', hr.2] at this; cases this)]
        exact hS.ot r' o e
      · cases hlb : L1.obj r with
        | none => rfl
        | some o => have := hS.ot r o hlb; rw [hr.2] at this; cases this
  -- the first ways
  have first : ∀ i, i ≤ g.nons.toNat → ∀ (L2 : GHeap) (sw : Sl), Le L1 L2 → Own L1 rWay L2 sw ((List.range i).map fun n : Nat => ((n : Int), (n : Int), [])) → cycle_Cyclic.c6 (CycPostL g L) sl sw g.nons ((i : Nat) : Int) g.terms g.nons g.start sg L2 := by
    refine down ?_ ?_
    · intro L2 sw hle2 ho
      apply cycle_Cyclic.go6
      refine bcD (fun h => absurd h (by omega)) fun _ => ?_
      refine rounds 0 (Nat.zero_le _) L2 sw _ (.of hle2) ho.sl (by rw [List.length_map, List.length_range]; omega) ⟨fun w hw => ?_, fun w hw rs' _ _ => ?_, fun n m h0 h1 hw => ?_, fun q b h1 h2 => by omega⟩
      · obtain ⟨n, hn, rfl⟩ := List.mem_map.1 hw
        have := List.mem_range.1 hn
        exact ⟨⟨by simp only; omega, by simp only; omega⟩, ⟨by simp only; omega, by simp only; omega⟩, .nil _, rfl⟩
      · obtain ⟨n, hn, rfl⟩ := List.mem_map.1 hw
        exact trivial
      · have hw : n = m := hw
        subst hw
        exact ⟨[], List.mem_map.2 ⟨n.toNat, List.mem_range.2 (show n.toNat < g.nons.toNat by omega), by rw [Int.toNat_of_nonneg h0]⟩⟩
    · intro i hi ih L2 sw hle2 ho
      rw [List.range_succ, List.map_append] at ih
      apply cycle_Cyclic.go6
      refine bcD (fun _ => ?_) fun h => absurd (by omega) h
      refine Own.append (R := rWay) (bytes := 40) (m := 1) (ys := [((i : Int), (i : Int), [])]) ho hle2 (Cells.cons (c := [.int .i64 (i : Int), .int .i64 (i : Int), .slice none 0 0]) ⟨⟨none, 0, 0⟩, rfl, .nil _ _ _ _⟩ .nil) rfl (.inl (by rw [List.length_map, List.length_range]; omega)) fun s3 L3 g1 _ g3 _ _ => ?_
      rw [add_one (by omega)]
      exact ih L3 s3 g1 g3
  exact first 0 (Nat.zero_le _) L1 ⟨none, 0, 0⟩ (.refl _) (.nil _ _ _)
end Go.Proofs.YtjmpheidcofhnaaDoor

namespace Go.Proofs.YtjmpheidcofhnaaDoor
open Go Go.Proofs.YtjmpheidcofhnaaDoor.GH

/-- What is known of n when rules before q, and of rule q the symbols before i, are done. -/
def Lf (g : Gram) (n : Int) (q i : Nat) : Prop := ∃ (q' : Nat) (r : Rule) (i' : Nat) (s : Sym), g.rules[q']? = some r ∧ r.left = n ∧ r.right[i']? = some s ∧ Ds g (r.right.take i') [] ∧ (∃ k, Walk (EdN g false) k (nodeI g s) (g.terms + n)) ∧ (q' < q ∨ (q' = q ∧ i' < i))

section
variable {g : Gram} {n : Int} {q i : Nat} {r : Rule}
theorem Lf.next {s : Sym} (hr : g.rules[q]? = some r) (hs : r.right[i]? = some s) : Lf g n q (i + 1) ↔ Lf g n q i ∨ (r.left = n ∧ Ds g (r.right.take i) [] ∧ ∃ k, Walk (EdN g false) k (nodeI g s) (g.terms + n)) := by
  unfold Lf
  constructor
  · rintro ⟨q', r', i', s', h1, h2, h3, h4, h5, h6⟩
    by_cases e : q' = q ∧ i' = i
    · obtain ⟨rfl, rfl⟩ := e
      rw [hr] at h1; cases h1
      rw [hs] at h3; cases h3
      exact .inr ⟨h2, h4, h5⟩
    · exact .inl ⟨q', r', i', s', h1, h2, h3, h4, h5, by omega⟩
  · rintro (⟨q', r', i', s', h1, h2, h3, h4, h5, h6⟩ | ⟨h1, h2, h3⟩)
    · exact ⟨q', r', i', s', h1, h2, h3, h4, h5, by omega⟩
    · exact ⟨q, r, i, s, hr, h1, hs, h2, h3, by omega⟩
theorem Lf.nextQ (hr : g.rules[q]? = some r) (hi : r.right.length ≤ i) : Lf g n (q + 1) 0 ↔ Lf g n q i := by
  unfold Lf
  constructor
  · rintro ⟨q', r', i', s', h1, h2, h3, h4, h5, h6⟩
    refine ⟨q', r', i', s', h1, h2, h3, h4, h5, ?_⟩
    by_cases e : q' = q
    · subst e
      rw [hr] at h1; cases h1
      have := (List.getElem?_eq_some_iff.1 h3).1
      omega
    · omega
  · rintro ⟨q', r', i', s', h1, h2, h3, h4, h5, h6⟩
    exact ⟨q', r', i', s', h1, h2, h3, h4, h5, by omega⟩
theorem Lf.fin (hv : Valid g) (hn : 0 ≤ n) : Lf g n g.rules.length 0 ↔ OnLoop (Edge g false) n := by
  unfold Lf
  constructor
  · rintro ⟨q', r', i', s', h1, rfl, h3, h4, ⟨k, h5⟩, _⟩
    refine ⟨k, (walk_edn hv hn).1 (Walk.cons ⟨r', List.mem_of_getElem? h1, i', s', h3, by simpa using h4, rfl, rfl⟩ h5)⟩
  · rintro ⟨k, h⟩
    obtain ⟨c, ⟨r', hr', i', s', h3, h4, h5, rfl⟩, h2⟩ := ((walk_edn hv hn).2 h).head
    obtain ⟨q', hq⟩ := List.getElem?_of_mem hr'
    exact ⟨q', r', i', s', hq, by omega, h3, by simpa using h4, ⟨k, h2⟩, .inl (List.getElem?_eq_some_iff.1 hq).1⟩
end

def LfPost (L : GHeap) (g : Gram) (v : Value) (L' : GHeap) : Prop :=
  Le L L' ∧ ∃ (so : Sl) (p : Nat → Bool), v = .slice so.a so.n so.c ∧ IsSl rI L' so (((List.range g.nons.toNat).filter p).map fun n : Nat => (n : Int)) ∧ ∀ n : Nat, n < g.nons.toNat → (p n = true ↔ OnLoop (Edge g false) n)

section
variable {L : GHeap} {g : Gram} {sg : Sl}

theorem LeftOf_spec {lens : List Int} (hv : Valid g) (hln : LenSpec g lens) (hs : IsSl rRule L sg g.rules) : ACalls PP parlref2_LeftOf.id [gramV g sg] L (LfPost L g) := by
  have ht := hv.terms
  have hnn := hv.nons
  have hmany := hv.many
  have hsgn := hs.n
  have hnu := hln.null
  apply parlref2_LeftOf.go
  refine (Nulls_spec hv hln hs).mono ?_
  rintro v L1 ⟨hle1, sn, rfl, hn⟩
  refine ⟨sn, rfl, (Edges_spec hv hln (hs.mono hle1.toLeM)).mono ?_⟩
  rintro v L2 ⟨hle2, sm, m, rfl, hm, hT, hA⟩
  have h02 := hle1.trans hle2
  have hs2 := hs.mono h02.toLeM
  have hn2 := hn.mono hle2.toLeM
  generalize (lens.map fun k => k == 0) = null at *
  have hnl := hnu.1
  refine ⟨sm, rfl, ?_⟩
  have key : ∀ n, n ≤ g.nons.toNat → ∀ (p : Nat → Bool), (∀ n' : Nat, n' < n → (p n' = true ↔ OnLoop (Edge g false) n')) → ∀ (L3 : GHeap) (so : Sl), Le L2 L3 → Own L2 rI L3 so (((List.range n).filter p).map fun n : Nat => (n : Int)) →
      parlref2_LeftOf.c4 (LfPost L g) sn sm so g.nons ((n : Nat) : Int) g.terms g.nons g.start sg L3 := by
    refine down ?_ ?_
    · intro p hp L3 so hle ho
      apply parlref2_LeftOf.go4
      exact bcD (fun h => absurd h (by omega)) fun _ => ⟨h02.trans hle, so, p, rfl, ho.sl, hp⟩
    · intro n hn' ih p hp L3 so hle ho
      apply parlref2_LeftOf.go4
      refine bcD (fun _ => ?_) fun h => absurd (by omega) h
      have rules : ∀ q, q ≤ g.rules.length → ∀ (is_ : Bool) (L4 : GHeap), Le L3 L4 → (is_ = true ↔ Lf g n q 0) → parlref2_LeftOf.c8 (LfPost L g) sn sm so ((n : Nat) : Int) is_ g.nons ((n : Nat) : Int) sg ((sg.n : Nat) : Int) ((q : Nat) : Int) g.terms g.nons g.start sg L4 := by
        refine down ?_ ?_
        · intro is_ L4 hle4 hi
          rw [Lf.fin hv (by omega)] at hi
          apply parlref2_LeftOf.go8
          refine bcD (fun h => absurd h (by omega)) fun _ => ?_
          have hpr : (List.range (n + 1)).filter (fun k => if k = n then is_ else p k) = (List.range n).filter p ++ if is_ = true then [n] else [] := by
            rw [List.range_succ, List.filter_append]
            congr 1
            · refine List.filter_congr fun x hx => ?_
              have := List.mem_range.1 hx
              rw [if_neg (by omega)]
            · rw [List.filter_cons]; simp
          have fin : ∀ (L5 : GHeap) (so' : Sl), Le L2 L5 → Own L2 rI L5 so' (((List.range (n + 1)).filter (fun k => if k = n then is_ else p k)).map fun n : Nat => (n : Int)) →
              parlref2_LeftOf.c18 (LfPost L g) sn sm so' g.nons ((n : Nat) : Int) g.terms g.nons g.start sg L5 := by
            intro L5 so' h5 ho5
            apply parlref2_LeftOf.go18
            unfold parlref2_LeftOf.t18
            rw [add_one (by omega)]
            refine ih _ (fun n' hn'' => ?_) L5 so' h5 ho5
            by_cases e : n' = n
            · subst e; rw [if_pos rfl]; exact hi
            · rw [if_neg e]; exact hp n' (by omega)
          rw [hpr, List.map_append] at fin
          have hlen := List.length_filter_le p (List.range n)
          rw [List.length_range] at hlen
          refine bcI (fun h => ?_) fun h => ?_
          · rw [if_pos h] at fin
            refine Own.append (R := rI) (bytes := 8) (m := 1) (ys := [((n : Nat) : Int)]) (ho.mono hle4) (hle.trans hle4) (Cells.cons (c := [.int .i64 ((n : Nat) : Int)]) rfl .nil) rfl (.inl (by rw [List.length_map]; omega)) fun so' L5 g1 _ g3 _ _ => fin L5 so' g1 g3
          · rw [if_neg (by rw [h]; simp), List.map_nil, List.append_nil] at fin
            exact fin L4 so (hle.trans hle4) (ho.mono hle4)
        · intro q hq ihq is_ L4 hle4 hi
          have hqr := List.getElem?_eq_getElem hq
          have hrm := List.getElem_mem hq
          generalize g.rules[q] = r at *
          have hok := (hv.ok r hrm).1
          have hr4 := (hv.ok r hrm).2
          apply parlref2_LeftOf.go8
          refine bcD (fun _ => ?_) fun h => absurd (by omega) h
          refine (hs2.mono (hle.trans hle4).toLeM).get hqr fun a1 cs1 hK1 hc1 => ?_
          obtain ⟨sr, rfl, hsr⟩ := hK1
          have hrn := hsr.n
          have hrc := hsr.c
          refine ⟨_, sr, hc1, ?_⟩
          have syms : ∀ i, i ≤ r.right.length → ∀ (is_ : Bool) (L5 : GHeap), Le L4 L5 → (is_ = true ↔ Lf g n q i) → parlref2_LeftOf.c11 (LfPost L g) sn sm so ((n : Nat) : Int) is_ g.nons ((n : Nat) : Int) sg ((sg.n : Nat) : Int) ((q : Nat) : Int) sr ((sr.n : Nat) : Int) ((i : Nat) : Int) g.terms g.nons g.start sg r.left sr L5 := by
            refine down ?_ ?_
            · intro is_ L5 hle5 hi5
              apply parlref2_LeftOf.go11
              refine bcD (fun h => absurd h (by omega)) fun _ => ?_
              rw [add_one (by omega)]
              exact ihq is_ L5 (hle4.trans hle5) (hi5.trans (Lf.nextQ hqr (Nat.le_refl _)).symm)
            · intro i hi' ihi is_ L5 hle5 hi5
              have hxi := List.getElem?_eq_getElem hi'
              have hsok := hok.right _ (List.getElem_mem hi')
              generalize r.right[i] = s at *
              have hnx := Lf.next (n := (n : Int)) hqr hxi
              have next : ∀ (b : Bool) (L6 : GHeap), Le L5 L6 → (b = true ↔ Lf g n q (i + 1)) → parlref2_LeftOf.c14 (LfPost L g) sn sm so ((n : Nat) : Int) b g.nons ((n : Nat) : Int) sg ((sg.n : Nat) : Int) ((q : Nat) : Int) sr ((sr.n : Nat) : Int) ((i : Nat) : Int) g.terms g.nons g.start sg r.left sr L6 := by
                intro b L6 h6 hb
                apply parlref2_LeftOf.go14
                unfold parlref2_LeftOf.t14
                rw [add_one (by omega)]
                exact ihi b L6 (hle5.trans h6) hb
              apply parlref2_LeftOf.go11
              refine bcD (fun _ => ?_) fun h => absurd (by omega) h
              refine (hsr.mono hle5.toLeM).get hxi fun a2 cs2 hK2 hc2 => ?_
              obtain rfl := hK2
              refine ⟨_, _, hc2, bcI (fun h1 => next true L5 (.refl _) ⟨fun _ => hnx.2 (.inl (hi5.1 h1)), fun _ => rfl⟩) fun h1 => ?_⟩
              have hno : ¬ Lf g n q i := fun h => by rw [hi5.2 h] at h1; cases h1
              refine bcE (fun el => ?_) fun el => next false L5 (.refl _) ⟨fun h => (by cases h), fun h => (hnx.1 h).elim (fun h => absurd h hno) fun h => absurd h.1 el⟩
              rw [Int.toNat_natCast]
              have htk : ∀ s ∈ r.right.take i, SymOk g.terms g.nons s := fun s hs' => hok.right s (List.mem_of_mem_take hs')
              have h25 := (hle.trans hle4).trans hle5
              refine ⟨⟨by omega, by omega⟩, (empty_spec (sl := ⟨sr.a, i, sr.c⟩) (null := null) (l := r.right.take i) (hn2.mono h25.toLeM) ((hsr.mono hle5.toLeM).take (by omega)) (fun s hs' hst => by have h := htk s hs'; have := h.2.2 hst; exact ⟨h.1, by omega⟩) (by rw [List.length_take]; omega)).mono ?_⟩
              rintro v L6 ⟨rfl, hle6⟩
              refine ⟨_, rfl, bcI (fun h2 => ?_) fun h2 => next false L6 hle6 ⟨fun h => (by cases h), fun h => (hnx.1 h).elim (fun h => absurd h hno) fun h => ?_⟩⟩
              · have hds := (all_emp hnu htk).1 h2
                have hnb := nodeI_bound hv hsok
                refine (node_ro (sg := sg) (s := s) ⟨by omega, by omega⟩ ⟨hsok.1, by
                  cases h : s.term with
                  | true => have := hsok.2.1 h; omega
                  | false => have := hsok.2.2 h; omega⟩).use ⟨_, rfl, ?_⟩
                obtain ⟨row, v, r1, r2, r3, r4⟩ := hT.get (i := (nodeI g s).toNat) (j := (g.terms + n).toNat) (by omega) (by omega)
                refine (hm.mono (h25.trans hle6).toLeM).getI hnb.1 r1 fun a4 cs4 hK4 hc4 => ?_
                obtain ⟨s4, rfl, hs4⟩ := hK4
                refine ⟨s4, reads_one hc4, ?_⟩
                rw [w64_in (by omega) (by omega)]
                refine hs4.getI (by omega) r2 fun a5 cs5 hK5 hc5 => ?_
                obtain rfl := hK5
                refine ⟨_, reads_one hc5, next v L6 hle6 ?_⟩
                have h7 := hA (nodeI g s).toNat (g.terms + n).toNat (by omega) (by omega)
                rw [r4, Int.toNat_of_nonneg hnb.1, Int.toNat_of_nonneg (by omega)] at h7
                rw [h7, hnx]
                exact ⟨fun h => .inr ⟨el, hds, h⟩, fun h => h.elim (fun h => absurd h hno) fun h => h.2.2⟩
              · rw [(all_emp hnu htk).2 h.2.1] at h2; cases h2
          exact syms 0 (Nat.zero_le _) is_ L4 (.refl _) hi
      exact rules 0 (Nat.zero_le _) false L3 (.refl _) ⟨fun h => (by cases h), fun ⟨q', _, i', _, _, _, _, _, _, h⟩ => by omega⟩
  exact key 0 (Nat.zero_le _) (fun _ => false) (fun n' h => absurd h (Nat.not_lt_zero _)) L2 ⟨none, 0, 0⟩ (.refl _) (.nil _ _ _)
end
end Go.Proofs.YtjmpheidcofhnaaDoor

