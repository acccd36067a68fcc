/- Package factor: out (walk). -/
import Derived.Test.YtjmpheidcofhnaaDoorCInlTrees
import Derived.Test.YtjmpheidcofhnaaDoorCCloneT
set_option linter.all false
namespace Go.Proofs.YtjmpheidcofhnaaDoor
open Go Go.Proofs.YtjmpheidcofhnaaDoor.GH

section
variable {g : Gram} {n : Int} {sg so sf : Sl}

def OutSpec (g : Gram) (n : Int) (sg so sf : Sl) (t : Tree) : Prop := ∀ (y : Sym) (L : GHeap) (s : Sl), WT (inlG g n) y t → y ≠ ⟨false, n⟩ → IsSl rRule L sg g.rules → IsSl (rS rI) L sf (inlF g n) → IsSl rTree L s t.kids → t.nodes ≤ 1000000 →
  ACalls PP factor_Inlined_out.id [inV (inlG g n) so sf, gramV g sg, .int .i64 n, treeV t s] L (TrI L (outT g n t))

theorem out_spec (hv : Valid g) (hok : InlOk g n) : ∀ (m : Nat) (t : Tree), t.nodes ≤ m → OutSpec g n sg so sf t := by
  intro m
  induction m with
  | zero => intro t hn; have := nodes_pos t; omega
  | succ m ih =>
    intro t hn y L0 s hw hy hsg hsf hs hnb
    obtain ⟨r, tm, ks⟩ := t
    replace hs : IsSl rTree L0 s ks := hs
    simp only [Tree.nodes] at hn hnb
    have hkl := kids_le ks
    simp only [WT] at hw
    apply factor_Inlined_out.go
    rcases hw with ⟨h1, h2, h3, h4⟩ | ⟨h1, h0, h2, q, h3, h4, h5⟩
    · refine bcD (fun h => ?_) fun h => absurd (show r < 0 by omega) h
      have e : outT g n (.mk r tm ks) = .mk (-1) tm [] := by simp only [outT]; rw [if_pos (by omega)]
      rw [e]
      exact ⟨.refl _, ⟨none, 0, 0⟩, rfl, .nil _ _ _ _⟩
    subst h0
    refine bcD (fun h => absurd (show r < 0 from h) (by omega)) fun _ => ?_
    obtain ⟨j, rfl⟩ : ∃ j : Nat, r = (j : Int) := ⟨r.toNat, by omega⟩
    rw [Int.toNat_natCast] at h3
    obtain ⟨f, hf, i, rl, cs, a1, a2, a3, a4, rfl⟩ := inl_at h3
    have hrm := List.mem_of_getElem? a1
    have hr4 := (hv.ok rl hrm).2
    have hF : (inlF g n)[((j : Nat) : Int).toNat]? = some ((i : Int) :: cs) := by rw [Int.toNat_natCast]; unfold inlF; rw [List.getElem?_map, hf]; rfl
    have e : outT g n (.mk (j : Int) 0 ks) = .mk (i : Int) 0 (regr g n rl.right cs (ks.map (outT g n))) := by
      simp only [outT]
      rw [if_neg (by omega), F_at hf, outTs_map]
      simp only [List.headD_cons, List.drop_succ_cons, List.drop_zero]
      rw [rgt_at a1]
    rw [e]
    obtain ⟨b1, b2⟩ := outs_list (fun k _ => out_all hok k) (a4.ne hok.no) h5
    have hkn := b1.length
    generalize hT : Tree.mk (i : Int) 0 (regr g n rl.right cs (ks.map (outT g n))) = T
    -- the symbols of the old rule
    have walk : ∀ {L1 : GHeap} {st : Sl} {b8 : Int} {b9 : Int} {b10 : Sl}, Le L0 L1 → IsSl rSym L1 st rl.right →
        ∀ {ss : List Sym} {cs' : List Int} {xs' : List Sym}, Exp g n ss cs' xs' → ∀ (p : Nat), rl.right.drop p = ss → ∀ (kids' done : List Tree) (L : GHeap) (sk sc sr : Sl), kids'.length = xs'.length → kids'.length ≤ ks.length → done.length ≤ p → p ≤ rl.right.length → Le L1 L → IsSl rTree L sk kids' → IsSl rI L sc cs' → Own L1 rTree L sr done →
        done ++ regr g n ss cs' kids' = regr g n rl.right cs (ks.map (outT g n)) →
        factor_Inlined_out.c13 (TrI L0 T) n sk sc st ((st.n : Nat) : Int) ((p : Nat) : Int) g.terms g.nons g.start sg b8 b9 b10 (i : Int) 0 sr L := by
      intro L1 st b8 b9 b10 hle1 hst ss cs' xs' he
      have hsgn := hsg.mono hle1.toLeM
      induction he with
      | nil =>
        intro p hp kids' done L sk sc sr hlen _ hdp hpl hle hsk hsc ho hd
        have hpn : rl.right.length ≤ p := by simpa using hp
        apply factor_Inlined_out.go13
        refine bcD (fun h => absurd h (by rw [hst.n]; omega)) fun _ => ?_
        simp only [regr, List.append_nil] at hd
        rw [← hT, ← hd]
        exact ⟨hle1.trans hle, sr, rfl, ho.sl⟩
      | @keep s0 ss' cs' xs' hs0 he' ihe =>
        intro p hp kids' done L sk sc sr hlen hlk hdp hpl hle hsk hsc ho hd
        have hpp : rl.right[p]? = some s0 := by
          have := congrArg (fun l => l[0]?) hp
          simpa [List.getElem?_drop] using this
        have hlt := (List.getElem?_eq_some_iff.1 hpp).1
        have hp1 : rl.right.drop (p + 1) = ss' := by rw [← List.drop_drop, hp]; rfl
        apply factor_Inlined_out.go13
        refine bcD (fun _ => ?_) fun h => absurd (by rw [hst.n]; omega) h
        refine (hst.mono hle.toLeM).get hpp fun ad cc hK hc => ?_
        obtain rfl := hK
        obtain ⟨k0, kids2, rfl⟩ : ∃ a b, kids' = a :: b := by cases kids' with
          | nil => simp at hlen
          | cons a b => exact ⟨a, b, rfl⟩
        refine ⟨_, _, hc, bcF (by have := hs0; unfold isN at this; cases ht : s0.term <;> rw [ht] at this <;> simpa using this) ?_⟩
        refine hsk.get (i := 0) rfl fun ad2 cc2 hK2 hc2 => ?_
        obtain ⟨skk, rfl, hskk⟩ := TK.open hK2
        refine ⟨_, _, skk, by simpa using hc2, ?_⟩
        refine Own.append (R := rTree) (bytes := 40) (m := 1) (ys := [k0]) ho hle (Cells.cons (c := [.int .i64 k0.rule, .int .i64 k0.term, .slice skk.a skk.n skk.c]) (cell_treeI hskk) .nil) rfl (.inl (by omega)) fun s' L' g1 g2 g3 _ _ => ?_
        apply factor_Inlined_out.go21
        have hkn' := hsk.n
        simp only [List.length_cons] at hkn' hlen hlk
        refine ⟨⟨by omega, by omega⟩, ?_⟩
        apply factor_Inlined_out.go22
        unfold factor_Inlined_out.t22
        rw [add_one (by omega)]
        have hdr := (hsk.mono g2).drop (l := 1) (by simp)
        refine ihe (p + 1) hp1 kids2 (done ++ [k0]) L' _ sc s' (by omega) (by omega) (by simp; omega) hlt g1 hdr (hsc.mono g2) g3 ?_
        rw [← hd]
        simp only [regr]
        rw [if_neg (by rw [hs0]; simp)]
        simp
      | @put c ss' cs' xs' hc' he' ihe =>
        intro p hp kids' done L sk sc sr hlen hlk hdp hpl hle hsk hsc ho hd
        have hpp : rl.right[p]? = some ⟨false, n⟩ := by
          have := congrArg (fun l => l[0]?) hp
          simpa [List.getElem?_drop] using this
        have hlt := (List.getElem?_eq_some_iff.1 hpp).1
        have hp1 : rl.right.drop (p + 1) = ss' := by rw [← List.drop_drop, hp]; rfl
        obtain ⟨c', r2, rfl, w3, w4⟩ := mem_inOwn.1 hc'
        have w3' : g.rules[((c' : Nat) : Int).toNat]? = some r2 := by rw [Int.toNat_natCast]; exact w3
        have hrg : rgt g (c' : Int) = r2.right := rgt_at w3
        rw [hrg, List.length_append] at hlen
        apply factor_Inlined_out.go13
        refine bcD (fun _ => ?_) fun h => absurd (by rw [hst.n]; omega) h
        refine (hst.mono hle.toLeM).get hpp fun ad cc hK hc => ?_
        obtain rfl := hK
        refine ⟨_, _, hc, bcT (by simp) ?_⟩
        refine hsc.get (i := 0) rfl fun ad1 cc1 hK1 hc1 => ?_
        obtain rfl := hK1
        refine ⟨_, by simpa using reads_one hc1, ?_⟩
        refine (hsgn.mono hle.toLeM).getI (by omega) w3' fun ad2 cc2 hK2 hc2 => ?_
        obtain ⟨s2, rfl, hs2⟩ := hK2
        refine ⟨s2, hc2.2.1, ?_⟩
        have hs2n := hs2.n
        have hskn := hsk.n
        have hskc := hsk.c
        refine hsc.get (i := 0) rfl fun ad3 cc3 hK3 hc3 => ?_
        obtain rfl := hK3
        have hrd : L.mem (ad3.add (Int.toNat (0 : Int) * 1)) = some (.int .i64 (c' : Int)) := by simpa using reads_one hc3
        have hclone := CloneT_spec (hsk.take (i := s2.n) (by omega)) (by rw [List.length_take]; omega)
        have hnew : ∀ (L3 L4 : GHeap) (s3 s' : Sl), LeM L L4 → Le L1 L4 → Own L1 rTree L4 s' (done ++ [.mk (c' : Int) 0 (kids'.take s2.n)]) → 
            factor_Inlined_out.c19 (TrI L0 T) n sk sc ((s2.n : Nat) : Int) st ((st.n : Nat) : Int) ((p : Nat) : Int) g.terms g.nons g.start sg b8 b9 b10 (i : Int) 0 s' L4 := by
          intro _ L4 _ s' g2 g1 g3
          have hscn := hsc.n
          simp only [List.length_cons] at hscn
          apply factor_Inlined_out.go19
          refine ⟨⟨by omega, by omega⟩, ?_⟩
          apply factor_Inlined_out.go21
          refine ⟨⟨by omega, by omega⟩, ?_⟩
          rw [Int.toNat_natCast]
          apply factor_Inlined_out.go22
          unfold factor_Inlined_out.t22
          rw [add_one (by omega)]
          have hdr := (hsk.mono g2).drop (l := s2.n) (by omega)
          have hdc := (hsc.mono g2).drop (l := 1) (by simp)
          refine ihe (p + 1) hp1 (kids'.drop s2.n) _ L4 _ _ s' (by rw [List.length_drop]; omega) (by rw [List.length_drop]; omega) (by simp; omega) hlt g1 hdr hdc g3 ?_
          rw [← hd]
          simp only [regr]
          rw [if_pos (isN_iff.2 rfl), hrg, ← hs2n]
          simp
        have happ : ∀ (L3 : GHeap) (s3 : Sl), Le L L3 → IsSl rTree L3 s3 (kids'.take s2.n) → appendK 3 40 L3 sr 1 [.int .i64 (c' : Int), .int .i64 0, .slice s3.a s3.n s3.c] fun x87 L =>
            factor_Inlined_out.c19 (TrI L0 T) n sk sc ((s2.n : Nat) : Int) st ((st.n : Nat) : Int) ((p : Nat) : Int) g.terms g.nons g.start sg b8 b9 b10 (i : Int) 0 x87 L := by
          intro L3 s3 hle3 hs3
          refine Own.append (R := rTree) (bytes := 40) (m := 1) (ys := [.mk (c' : Int) 0 (kids'.take s2.n)]) (ho.mono hle3) (hle.trans hle3) (Cells.cons (c := [.int .i64 (c' : Int), .int .i64 0, .slice s3.a s3.n s3.c]) (TK.mk hs3) .nil) rfl (.inl (by omega)) fun s' L' g1 g2 g3 _ _ => ?_
          exact hnew L3 L' s3 s' (hle3.toLeM.trans g2) g1 g3
        refine ⟨⟨by omega, by omega⟩, ?_, ?_⟩
        · refine ⟨_, hrd, hclone.mono ?_⟩
          rintro v L3 ⟨s3, rfl, hle3, ho3⟩
          exact ⟨s3, rfl, happ L3 s3 hle3 ho3.sl⟩
        · refine hclone.mono ?_
          rintro v L3 ⟨s3, rfl, hle3, ho3⟩
          exact ⟨s3, rfl, _, hle3.toLeM.mem _ _ hrd, happ L3 s3 hle3 ho3.sl⟩
    have key : ∀ q, q ≤ ks.length → ∀ (L : GHeap) (sx : Sl), Le L0 L → Own L0 rTree L sx ((ks.take q).map (outT g n)) →
        factor_Inlined_out.c5 (TrI L0 T) n sx s ((s.n : Nat) : Int) ((q : Nat) : Int) (inlG g n).terms (inlG g n).nons (inlG g n).start so sf g.terms g.nons g.start sg (j : Int) 0 s 0 0 ⟨none, 0, 0⟩ L := by
      refine down ?_ ?_
      · intro L sx hle ho
        rw [List.take_length] at ho
        apply factor_Inlined_out.go5
        refine bcD (fun h => absurd h (by rw [hs.n]; omega)) fun _ => ?_
        refine (hsf.mono hle.toLeM).getI (by omega) hF fun ad cc hK hc => ?_
        obtain ⟨sc, rfl, hsc⟩ := hK
        refine ⟨sc, reads_one hc, ?_⟩
        have hscn := hsc.n
        simp only [List.length_cons] at hscn
        refine hsc.get (i := 0) rfl fun ad1 cc1 hK1 hc1 => ?_
        obtain rfl := hK1
        refine ⟨_, by simpa using reads_one hc1, ⟨by omega, by omega⟩, ?_⟩
        refine (hsg.mono hle.toLeM).getI (by omega) (x := rl) (by rw [Int.toNat_natCast]; exact a1) fun ad2 cc2 hK2 hc2 => ?_
        obtain ⟨s2, rfl, hs2⟩ := hK2
        refine ⟨s2, hc2.2.1, ?_⟩
        have hdc := hsc.drop (l := 1) (by simp)
        exact walk (L1 := L) hle hs2 a4 0 rfl (ks.map (outT g n)) [] L sx _ ⟨none, 0, 0⟩ (by rw [hkn]) (by simp) (Nat.le_refl _) (Nat.zero_le _) (.refl _) ho.sl hdc (.nil _ _ _) rfl
      · intro q' hq ihq L sx hle ho
        rw [List.take_succ_eq_append_getElem hq, List.map_append] at ihq
        obtain ⟨y', hy', hwk'⟩ := h5.get q' _ (List.getElem?_eq_getElem hq)
        have hnk := nodes_mem (List.getElem_mem hq)
        apply factor_Inlined_out.go5
        refine bcD (fun _ => ?_) fun h => absurd (by rw [hs.n]; omega) h
        refine (hs.mono hle.toLeM).get (List.getElem?_eq_getElem hq) fun ad4 cs4 hK4 hc4 => ?_
        obtain ⟨sk, rfl, hsk⟩ := TK.open hK4
        refine ⟨_, _, sk, hc4, (ih _ (by omega) y' L sk hwk' (a4.ne hok.no _ (List.mem_of_getElem? hy')) (hsg.mono hle.toLeM) (hsf.mono hle.toLeM) hsk (by omega)).mono ?_⟩
        rintro v L3 ⟨hle3, sb, rfl, hsb⟩
        refine ⟨_, _, sb, rfl, ?_⟩
        refine Own.append (R := rTree) (bytes := 40) (m := 1) (ys := [outT g n ks[q']]) (ho.mono hle3) (hle.trans hle3) (Cells.cons (c := [.int .i64 (outT g n ks[q']).rule, .int .i64 (outT g n ks[q']).term, .slice sb.a sb.n sb.c]) (cell_treeI hsb) .nil) rfl (.inl (by simp; omega)) fun s' L4 g1 _ g3 _ _ => ?_
        rw [add_one (by omega)]
        exact ihq L4 s' g1 g3
    exact key 0 (Nat.zero_le _) L0 ⟨none, 0, 0⟩ (.refl _) (.nil _ _ _)
end
end Go.Proofs.YtjmpheidcofhnaaDoor
