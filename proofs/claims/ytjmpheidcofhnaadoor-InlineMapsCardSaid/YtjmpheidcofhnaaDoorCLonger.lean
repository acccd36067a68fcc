/- Package factor: longer. -/
import Derived.Test.YtjmpheidcofhnaaDoorVAll0
import Derived.Test.YtjmpheidcofhnaaDoorCInlDef
import Derived.Test.YtjmpheidcofhnaaDoorCIdx
import Derived.Test.YtjmpheidcofhnaaDoorCCloneI
set_option linter.all false
namespace Go.Proofs.YtjmpheidcofhnaaDoor
open Go Go.Proofs.YtjmpheidcofhnaaDoor.GH

/-- The two lists that grow. -/
structure LS (L0 L : GHeap) (l m : Sl) (A : List (List Sym × List Int)) : Prop where
  le : Le L0 L
  ol : Own L0 (rS rSym) L l (A.map Prod.fst)
  om : Own L0 (rS rI) L m (A.map Prod.snd)
  sep : Sep l m
theorem LS.up {L0 L L' : GHeap} {l m : Sl} {A : List (List Sym × List Int)} (h : LS L0 L l m A) (hl : Le L L') : LS L0 L' l m A := ⟨h.le.trans hl, h.ol.mono hl, h.om.mono hl, h.sep⟩

section
variable {g : Gram} {n : Int} {sg sw sr sf : Sl} {acc : List (List Sym × List Int)} {s : Sym} {L0 : GHeap}

theorem longer_spec (hv : Valid g) {K : Value → GHeap → Prop} (hsg : IsSl rRule L0 sg g.rules) (hsw : IsSl rI L0 sw (inOwn g n)) (hsr : IsSl (rS rSym) L0 sr (acc.map Prod.fst)) (hsf : IsSl (rS rI) L0 sf (acc.map Prod.snd)) (hal : acc.length ≤ 1000) (hab : ∀ x ∈ acc, x.1.length ≤ 1000 ∧ x.2.length ≤ 1000)
    (hK : ∀ L l m, LS L0 L l m (lngL g n acc s) → K (.tuple #[.slice l.a l.n l.c, .slice m.a m.n m.c]) L) :
    ACalls PP factor_longer.id [gramV g sg, .int .i64 n, .slice sw.a sw.n sw.c, .agg #[.bool s.term, .int .i64 s.n], .slice sr.a sr.n sr.c, .slice sf.a sf.n sf.c] L0 K := by
  have hmany := hv.many
  have hown : (inOwn g n).length ≤ 32 := Nat.le_trans whereI_length hmany
  apply factor_longer.go
  unfold factor_longer.t
  have hbig : ∀ i, i ≤ acc.length → (lngL g n (acc.take i) s).length ≤ 33 * i := by
    intro i
    induction i with
    | zero => intro _; simp [lngL]
    | succ i ih =>
      intro hi
      have := ih (by omega)
      rw [List.take_succ_eq_append_getElem (by omega)]
      unfold lngL at this ⊢
      rw [List.flatMap_append, List.length_append]
      have h2 : (lngE g n s acc[i]).length ≤ 33 := by unfold lngE; split <;> simp; omega
      simp only [List.flatMap_cons, List.flatMap_nil, List.append_nil]
      omega
  have main : ∀ k, k ≤ acc.length → ∀ L l m, LS L0 L l m (lngL g n (acc.take k) s) → factor_longer.c4 K n sw sr sf l m ((sr.n : Nat) : Int) ((k : Nat) : Int) g.terms g.nons g.start sg s.term s.n L := by
    refine down ?_ ?_
    · intro L l m hS
      rw [List.take_length] at hS
      have hn := hsr.n
      rw [List.length_map] at hn
      apply factor_longer.go4
      exact bcD (fun h => absurd h (by omega)) fun _ => hK L l m hS
    · intro k hk ih L l m hS
      have hn := hsr.n
      have hnf := hsf.n
      rw [List.length_map] at hn hnf
      have hup := hS.le.toLeM
      have hbk := hbig k (by omega)
      have hx : (acc.map Prod.fst)[k]? = some acc[k].1 := by rw [List.getElem?_map, List.getElem?_eq_getElem hk]; rfl
      have hf : (acc.map Prod.snd)[k]? = some acc[k].2 := by rw [List.getElem?_map, List.getElem?_eq_getElem hk]; rfl
      obtain ⟨b1, b2⟩ := hab _ (List.getElem_mem hk)
      have hstep : lngL g n (acc.take (k + 1)) s = lngL g n (acc.take k) s ++ lngE g n s acc[k] := by
        unfold lngL
        rw [List.take_succ_eq_append_getElem hk, List.flatMap_append]
        simp
      have c14 : ∀ L l m, LS L0 L l m (lngL g n (acc.take k) s ++ lngE g n s acc[k]) → factor_longer.c14 K n sw sr sf l m ((sr.n : Nat) : Int) ((k : Nat) : Int) g.terms g.nons g.start sg s.term s.n L := by
        intro L l m hS
        apply factor_longer.go14
        unfold factor_longer.t14
        rw [add_one (by omega)]
        rw [← hstep] at hS
        exact ih L l m hS
      -- a symbol that stays
      have c7 : isN n s = false → factor_longer.c7 K n sw sr sf l m ((k : Nat) : Int) ((sr.n : Nat) : Int) ((k : Nat) : Int) g.terms g.nons g.start sg s.term s.n L := by
        intro hs
        have he : lngE g n s acc[k] = [(acc[k].1 ++ [s], acc[k].2)] := by unfold lngE; rw [if_neg (by rw [hs]; simp)]
        rw [he] at c14
        apply factor_longer.go7
        refine (hsr.mono hup).get hx fun a cs hK1 hc1 => ?_
        obtain ⟨s1, rfl, hs1⟩ := hK1
        have r1 : L.mem (a.add (Int.toNat ((k : Nat) : Int) * 1)) = some (.slice s1.a s1.n s1.c) := reads_one hc1
        refine (hsf.mono hup).get hf fun a2 cs2 hK2 hc2 => ?_
        obtain ⟨s2, rfl, hs2⟩ := hK2
        have r2 : L.mem (a2.add (Int.toNat ((k : Nat) : Int) * 1)) = some (.slice s2.a s2.n s2.c) := reads_one hc2
        -- the operations, whenever they come
        have C1 : ∀ {Q : Value → GHeap → Prop}, (∀ L2 x, Le L L2 → Own L rSym L2 x acc[k].1 → Q (.slice x.a x.n x.c) L2) → ACalls PP slices_Clone_api_Sym_api_Sym.id [.slice s1.a s1.n s1.c] L Q := fun hq => (CloneSym_spec hs1 (by omega)).mono fun v L2 ⟨x, e, h1, h2⟩ => by rw [e]; exact hq L2 x h1 h2
        have A1 : ∀ {L2 : GHeap} {x : Sl} {Q : Sl → GHeap → Prop}, Le L L2 → Own L rSym L2 x acc[k].1 → (∀ x3 L3, Le L L3 → IsSl rSym L3 x3 (acc[k].1 ++ [s]) → Q x3 L3) → appendK 2 16 L2 x 1 [.bool s.term, .int .i64 s.n] Q := fun h1 h2 hq =>
          Own.append (R := rSym) (bytes := 16) (m := 1) (ys := [s]) h2 h1 (Cells.cons (c := [.bool s.term, .int .i64 s.n]) rfl .nil) rfl (.inl (by omega)) fun x3 L3 g1 _ g3 _ _ => hq x3 L3 g1 g3.sl
        have A2 : ∀ {L3 : GHeap} {x : Sl} {Q : Sl → GHeap → Prop}, Le L L3 → IsSl rSym L3 x (acc[k].1 ++ [s]) → (∀ l4 L4, LeM L L4 → Le L0 L4 → Own L0 (rS rSym) L4 l4 ((lngL g n (acc.take k) s).map Prod.fst ++ [acc[k].1 ++ [s]]) → Own L0 (rS rI) L4 m ((lngL g n (acc.take k) s).map Prod.snd) → Sep l4 m → Q l4 L4) → appendK 1 24 L3 l 1 [.slice x.a x.n x.c] Q := fun {L3 x Q} h1 h2 hq =>
          Own.append (R := rS rSym) (bytes := 24) (m := 1) (ys := [acc[k].1 ++ [s]]) (hS.up h1).ol (hS.up h1).le (Cells.cons (c := [.slice x.a x.n x.c]) ⟨x, rfl, h2⟩ .nil) rfl (.inl (by rw [List.length_map]; omega)) fun l4 L4 g1 g2 g3 _ g5 => by
            obtain ⟨e1, e2⟩ := g5 _ _ _ (hS.up h1).om hS.sep
            exact hq l4 L4 (h1.toLeM.trans g2) g1 g3 e1 e2
        have F : ∀ {L4 : GHeap} {l4 : Sl}, LeM L L4 → Le L0 L4 → Own L0 (rS rSym) L4 l4 ((lngL g n (acc.take k) s).map Prod.fst ++ [acc[k].1 ++ [s]]) → Own L0 (rS rI) L4 m ((lngL g n (acc.take k) s).map Prod.snd) → Sep l4 m →
            ACalls PP slices_Clone_int_int.id [.slice s2.a s2.n s2.c] L4 fun v L5 => ∃ x48 : Sl, v = .slice x48.a x48.n x48.c ∧ appendK 1 24 L5 m 1 [.slice x48.a x48.n x48.c] fun m6 L6 => factor_longer.c14 K n sw sr sf l4 m6 ((sr.n : Nat) : Int) ((k : Nat) : Int) g.terms g.nons g.start sg s.term s.n L6 := by
          intro L4 l4 h1 h2 h3 h4 h5
          refine (CloneI_spec (hs2.mono h1) (by omega)).mono ?_
          rintro v L5 ⟨x, rfl, h6, h7⟩
          refine ⟨x, rfl, ?_⟩
          refine Own.append (R := rS rI) (bytes := 24) (m := 1) (ys := [acc[k].2]) (h4.mono h6) (h2.trans h6) (Cells.cons (c := [.slice x.a x.n x.c]) ⟨x, rfl, h7.sl⟩ .nil) rfl (.inl (by rw [List.length_map]; omega)) fun m6 L6 g1 _ g3 _ g5 => ?_
          obtain ⟨e1, e2⟩ := g5 _ _ _ (h3.mono h6) h5.symm
          refine c14 L6 l4 m6 ⟨g1, ?_, ?_, e2.symm⟩
          · rw [List.map_append]; exact e1
          · rw [List.map_append]; exact g3
        repeat' first
          | with_reducible refine And.intro ?_ ?_
          | with_reducible refine Exists.intro s1 (And.intro r1 ?_)
          | with_reducible refine Exists.intro s2 (And.intro r2 ?_)
          | with_reducible refine Exists.intro s2 (And.intro (hm4.mem _ _ r2) ?_)
          | with_reducible refine Exists.intro s2 (And.intro (h3.toLeM.mem _ _ r2) ?_)
          | with_reducible refine Exists.intro s2 (And.intro (h2.toLeM.mem _ _ r2) ?_)
          | with_reducible refine C1 fun L2 x h2 o2 => Exists.intro x (And.intro rfl ?_)
          | with_reducible refine A1 h2 o2 fun x3 L3 h3 i3 => ?_
          | with_reducible refine A2 h3 i3 fun l4 L4 hm4 hl4 ho4 hp4 hs4 => ?_
          | with_reducible exact F hm4 hl4 ho4 hp4 hs4
      apply factor_longer.go4
      refine bcD (fun _ => bcI (fun ht => c7 (by unfold isN; rw [ht]; rfl)) fun ht => bcNE (fun hne => c7 (by unfold isN; rw [ht, beq_eq_false_iff_ne.2 hne]; rfl)) fun heq => ?_) fun h => absurd (by omega) h
      have hs : isN n s = true := by unfold isN; rw [ht, heq]; simp
      have he : lngE g n s acc[k] = (inOwn g n).map fun i => (acc[k].1 ++ rgt g i, acc[k].2 ++ [i]) := by unfold lngE; rw [if_pos hs]
      rw [he] at c14
      -- the nonterminal's rules
      have own : ∀ q, q ≤ (inOwn g n).length → ∀ L l m, LS L0 L l m (lngL g n (acc.take k) s ++ ((inOwn g n).take q).map fun i => (acc[k].1 ++ rgt g i, acc[k].2 ++ [i])) →
          factor_longer.c9 K n sw sr sf l m ((k : Nat) : Int) ((sr.n : Nat) : Int) ((k : Nat) : Int) sw ((sw.n : Nat) : Int) ((q : Nat) : Int) g.terms g.nons g.start sg s.term s.n L := by
        refine down ?_ ?_
        · intro L l m hS
          rw [List.take_length] at hS
          apply factor_longer.go9
          exact bcD (fun h => absurd h (by rw [hsw.n]; omega)) fun _ => c14 L l m hS
        · intro q hq ihq L l m hS
          rw [List.take_succ_eq_append_getElem hq, List.map_append, ← List.append_assoc] at ihq
          have hup := hS.le.toLeM
          obtain ⟨c, rl, hc, w3, w4⟩ := mem_inOwn.1 (List.getElem_mem hq)
          have hrg : rgt g (inOwn g n)[q] = rl.right := by rw [hc]; exact rgt_at w3
          have hrl := (hv.ok rl (List.mem_of_getElem? w3)).2
          have hlen : (lngL g n (acc.take k) s ++ ((inOwn g n).take q).map fun i => (acc[k].1 ++ rgt g i, acc[k].2 ++ [i])).length ≤ 100000 := by rw [List.length_append, List.length_map, List.length_take]; omega
          generalize hA : (lngL g n (acc.take k) s ++ ((inOwn g n).take q).map fun i => (acc[k].1 ++ rgt g i, acc[k].2 ++ [i])) = A at hS hlen ihq
          apply factor_longer.go9
          refine bcD (fun _ => ?_) fun h => absurd (by rw [hsw.n]; omega) h
          refine (hsw.mono hup).get (List.getElem?_eq_getElem hq) fun a0 cs0 hK0 hc0 => ?_
          obtain rfl := hK0
          refine ⟨_, reads_one hc0, ?_⟩
          refine (hsr.mono hup).get hx fun a cs hK1 hc1 => ?_
          obtain ⟨s1, rfl, hs1⟩ := hK1
          have r1 : L.mem (a.add (Int.toNat ((k : Nat) : Int) * 1)) = some (.slice s1.a s1.n s1.c) := reads_one hc1
          have w3' : g.rules[((inOwn g n)[q]).toNat]? = some rl := by rw [hc, Int.toNat_natCast]; exact w3
          refine (hsg.mono hup).getI (by rw [hc]; omega) w3' fun a2 cs2 hK2 hc2 => ?_
          obtain ⟨s2, rfl, hs2⟩ := hK2
          have r2 : L.mem ((a2.add (Int.toNat (inOwn g n)[q] * 2)).add 1) = some (.slice s2.a s2.n s2.c) := hc2.2.1
          have hs2n := hs2.n
          have C1 : ∀ {Q : Value → GHeap → Prop}, (∀ L2 x, Le L L2 → Own L rSym L2 x acc[k].1 → Q (.slice x.a x.n x.c) L2) → ACalls PP slices_Clone_api_Sym_api_Sym.id [.slice s1.a s1.n s1.c] L Q := fun hq => (CloneSym_spec hs1 (by omega)).mono fun v L2 ⟨x, e, h1, h2⟩ => by rw [e]; exact hq L2 x h1 h2
          have A1 : ∀ {L2 : GHeap} {x : Sl} {Q : Sl → GHeap → Prop}, Le L L2 → Own L rSym L2 x acc[k].1 → (∀ x3 L3, Le L L3 → IsSl rSym L3 x3 (acc[k].1 ++ rl.right) → Q x3 L3) → ∃ c69 : List Value, (readsSl L2 s2.a (s2.n * 2) c69 ∧ c69.all Value.oneCell' = true) ∧ appendK 2 16 L2 x s2.n c69 Q := fun {L2 x Q} h1 h2 hq => by
            obtain ⟨ds, d1, d2⟩ := (hs2.mono h1.toLeM).cells
            refine ⟨ds, ⟨d2, d1.one⟩, ?_⟩
            exact Own.append (R := rSym) (bytes := 16) h2 h1 d1 hs2n.symm (.inl (by omega)) fun x3 L3 g1 _ g3 _ _ => hq x3 L3 g1 g3.sl
          have E12 : ∀ {L4 : GHeap} {l4 : Sl}, LeM L L4 → Le L0 L4 → Own L0 (rS rSym) L4 l4 (A.map Prod.fst ++ [acc[k].1 ++ rl.right]) → Own L0 (rS rI) L4 m (A.map Prod.snd) → Sep l4 m →
              factor_longer.c12 K n sw sr sf l4 m ((k : Nat) : Int) (inOwn g n)[q] ((sr.n : Nat) : Int) ((k : Nat) : Int) sw ((sw.n : Nat) : Int) ((q : Nat) : Int) g.terms g.nons g.start sg s.term s.n L4 := by
            intro L4 l4 h1 h2 h3 h4 h5
            apply factor_longer.go12
            refine (hsf.mono h2.toLeM).get hf fun a5 cs5 hK5 hc5 => ?_
            obtain ⟨s5, rfl, hs5⟩ := hK5
            refine ⟨s5, reads_one hc5, (CloneI_spec hs5 (by omega)).mono ?_⟩
            rintro v L5 ⟨x, rfl, h6, h7⟩
            refine ⟨x, rfl, ?_⟩
            refine Own.append (R := rI) (bytes := 8) (m := 1) (ys := [(inOwn g n)[q]]) h7 h6 (Cells.cons (c := [.int .i64 (inOwn g n)[q]]) rfl .nil) rfl (.inl (by omega)) fun x6 L6 k1 k2 k3 _ _ => ?_
            refine Own.append (R := rS rI) (bytes := 24) (m := 1) (ys := [acc[k].2 ++ [(inOwn g n)[q]]]) (h4.mono k1) (h2.trans k1) (Cells.cons (c := [.slice x6.a x6.n x6.c]) ⟨x6, rfl, k3.sl⟩ .nil) rfl (.inl (by rw [List.length_map]; omega)) fun m7 L7 g1 _ g3 _ g5 => ?_
            obtain ⟨e1, e2⟩ := g5 _ _ _ (h3.mono k1) h5.symm
            apply factor_longer.go13
            unfold factor_longer.t13
            rw [add_one (by omega)]
            refine ihq L7 l4 m7 ⟨g1, ?_, ?_, e2.symm⟩
            · rw [List.map_append]
              simp only [List.map_cons, List.map_nil]
              rw [hrg]; exact e1
            · rw [List.map_append]; exact g3
          have A2 : ∀ {L3 : GHeap} {x : Sl}, Le L L3 → IsSl rSym L3 x (acc[k].1 ++ rl.right) → appendK 1 24 L3 l 1 [.slice x.a x.n x.c] fun x71 L4 => factor_longer.c12 K n sw sr sf x71 m ((k : Nat) : Int) (inOwn g n)[q] ((sr.n : Nat) : Int) ((k : Nat) : Int) sw ((sw.n : Nat) : Int) ((q : Nat) : Int) g.terms g.nons g.start sg s.term s.n L4 := fun {L3 x} h1 h2 =>
            Own.append (R := rS rSym) (bytes := 24) (m := 1) (ys := [acc[k].1 ++ rl.right]) (hS.up h1).ol (hS.up h1).le (Cells.cons (c := [.slice x.a x.n x.c]) ⟨x, rfl, h2⟩ .nil) rfl (.inl (by rw [List.length_map]; omega)) fun l4 L4 g1 g2 g3 _ g5 => by
              obtain ⟨e1, e2⟩ := g5 _ _ _ (hS.up h1).om hS.sep
              exact E12 (h1.toLeM.trans g2) g1 g3 e1 e2
          repeat' first
            | with_reducible refine And.intro ?_ ?_
            | with_reducible refine Exists.intro s1 (And.intro r1 ?_)
            | with_reducible refine Exists.intro s2 (And.intro r2 ?_)
            | with_reducible refine Exists.intro s2 (And.intro (h2.toLeM.mem _ _ r2) ?_)
            | with_reducible refine C1 fun L2 x h2 o2 => Exists.intro x (And.intro rfl ?_)
            | with_reducible refine A1 h2 o2 fun x3 L3 h3 i3 => ?_
            | with_reducible exact A2 h3 i3
      exact own 0 (Nat.zero_le _) L l m (by simpa using hS)
  exact main 0 (Nat.zero_le _) L0 ⟨none, 0, 0⟩ ⟨none, 0, 0⟩ ⟨.refl _, .nil _ _ _, .nil _ _ _, fun h => absurd h (Nat.lt_irrefl 0)⟩
end
end Go.Proofs.YtjmpheidcofhnaaDoor
