/- GH, third part: the operations that touch no memory do what `pureK` says. -/
import Derived.Test.YtkpncpcgkpadgaaGhB
import GoSem.Dispatch
import Derived.WalkKit
set_option linter.all false
namespace Go.Proofs.Ytkpncpcgkpadgaa.GH
open Go

def AVr (bs : Nat → Nat) (x : AV) (v : Value) : Prop := match x with
  | .v u => v = u
  | .loc k off => v = .pointer (some ⟨bs k, off, none⟩)
  | .lsl k n => v = .slice (some ⟨bs k, 0, none⟩) n n
  | .junk => True

def wfAV (S : Sto) (x : AV) : Prop := match x with
  | .loc k _ => S k ≠ none
  | .lsl k _ => S k ≠ none
  | _ => True

theorem bc_true {b : Bool} {X Y : Prop} (h : bc b X Y) (hb : b = true) : X := by subst hb; exact h
theorem bc_false {b : Bool} {X Y : Prop} (h : bc b X Y) (hb : b = false) : Y := by subst hb; exact h

section
variable (P : Program)

theorem intBin_sound {op : BinOp} {t : TypeId} {kd kd' : IntKind} {m n : Int} {k : Value → Prop} (h : intBinK op kd kd' m n k) :
    ∃ u, k u ∧ (∀ k', k' u → intBinK op kd kd' m n k') ∧ ∀ w, (binOp op t (.int kd m) (.int kd' n)).run P w = .ok u w := by
  by_cases hk : kd = kd'
  · subst hk
    cases op <;> simp only [intBinK, bc, decide_true] at h ⊢ <;>
      first
        | exact h.elim
        | (refine ⟨_, h, fun k' hk' => hk', fun w => ?_⟩; simp [binOp, Op.intArith, Op.intBits, Op.intCmp]; done)
        | (obtain ⟨h1, h2⟩ := h
           refine ⟨_, h2, fun k' hk' => ⟨h1, hk'⟩, fun w => ?_⟩
           first
            | (simp [binOp, Op.intDiv, h1]; done)
            | (have h1' : ¬ n < 0 := by omega
               simp [binOp, Op.shift, h1']; done))
  · cases op <;> simp only [intBinK, bc, hk, decide_false] at h ⊢ <;>
      first
        | exact h.elim
        | (obtain ⟨h1, h2⟩ := h
           refine ⟨_, h2, fun k' hk' => ⟨h1, hk'⟩, fun w => ?_⟩
           have h1' : ¬ n < 0 := by omega
           simp [binOp, Op.shift, h1']; done)

theorem strBin_sound {op : BinOp} {t : TypeId} {x y : ByteArray} {k : Value → Prop} (h : strBinK op x y k) :
    ∃ u, k u ∧ (∀ k', k' u → strBinK op x y k') ∧ ∀ w, (binOp op t (.string x) (.string y)).run P w = .ok u w := by
  cases op <;> simp only [strBinK] at h ⊢ <;>
    first
      | exact h.elim
      | (refine ⟨_, h, fun k' hk' => hk', fun w => ?_⟩; simp [binOp, Op.stringOp]; done)
      | (obtain ⟨h1, h2⟩ := h
         refine ⟨_, h2, fun k' hk' => ⟨h1, hk'⟩, fun w => ?_⟩
         simp only [binOp, Op.stringOp]
         rw [if_neg (by omega)]; rfl)

theorem part_sound {t : TypeId} {cs : List Value} {off : Nat} {v : Value} (h : partV P t cs off = some v) (w : World) : (part t cs.toArray off).run P w = .ok v w := by
  unfold partV at h
  cases hi : P.info? t with
  | none => rw [hi] at h; cases h
  | some i =>
    rw [hi] at h
    cases hu : P.underlying t with
    | none => rw [hu] at h; cases h
    | some d =>
      rw [hu] at h
      cases d <;> simp only at h <;>
        first
          | (cases h
             simp [part, isAgg, Go.underlying, hu, sizeOf, typeInfo, hi]; done)
          | (simp [part, isAgg, Go.underlying, hu, h]; done)

mutual
theorem eqV_sound : ∀ (d : Nat) (t : TypeId) (x y : Value) (b : Bool), eqV P d t x y = some b → ∀ d', d ≤ d' → ∀ w, (Op.equalIn d' t x y).run P w = .ok b w
  | 0, t, x, y, b, h, _, _, _ => by simp [eqV] at h
  | d + 1, t, x, y, b, h, d', hd, w => by
    obtain ⟨d', rfl⟩ : ∃ m, d' = m + 1 := ⟨d' - 1, by omega⟩
    unfold eqV at h
    split at h
    · rename_i hu; cases h; simp [Op.equalIn, Go.underlying, hu]
    · rename_i ka a kb b' hu
      by_cases hk : ka = kb
      · simp only [hk, decide_true, cond_true, Option.some.injEq] at h
        subst h; simp [Op.equalIn, Go.underlying, hu, hk]
      · simp [hk] at h
    · rename_i hu; cases h; simp [Op.equalIn, Go.underlying, hu, beq_toListBytes]
    · rename_i a _ _ b _ _ hu
      cases a <;> cases b <;> simp only [nilEq, Option.some.injEq, reduceCtorEq] at h <;> (try subst h) <;> simp [Op.equalIn, Go.underlying, hu]
    · rename_i a b hu
      cases a <;> cases b <;> simp only [nilEq, Option.some.injEq, reduceCtorEq] at h <;> (try subst h) <;> simp [Op.equalIn, Go.underlying, hu]
    · rename_i a b hu
      cases a <;> cases b <;> simp only [nilEq, Option.some.injEq, reduceCtorEq] at h <;> (try subst h) <;> simp [Op.equalIn, Go.underlying, hu]
    · rename_i hu; cases h; simp [Op.equalIn, Go.underlying, hu]
    · rename_i hu; cases h; simp [Op.equalIn, Go.underlying, hu]
    · rename_i hu; cases h; simp [Op.equalIn, Go.underlying, hu]
    · rename_i fs xs ys hu
      cases hs : P.stoodInHeld t with
      | true => simp [hs] at h
      | false =>
        simp only [hs, cond_false, Option.map_eq_some_iff] at h
        obtain ⟨bs, hbs, rfl⟩ := h
        have hf : P.fieldsOf t = fs := by simp [Program.fieldsOf, hu]
        rw [run_equalIn_struct (P := P) w d' t xs ys (by rw [hf]; exact hu) hs, hf]
        exact eqFs_sound d fs.toList xs.toList ys.toList bs hbs d' (by omega) w
    · cases h
theorem eqFs_sound : ∀ (d : Nat) (fs : List Field) (xs ys : List Value) (bs : List Bool), eqFs P d fs xs ys = some bs → ∀ d', d ≤ d' → ∀ w,
    (Op.eqFields d' xs.toArray ys.toArray fs).run P w = .ok (conj bs) w
  | 0, fs, xs, ys, bs, h, _, _, _ => by simp [eqFs] at h
  | d + 1, [], xs, ys, bs, h, d', hd, w => by simp [eqFs] at h; subst h; simp [Op.eqFields, conj]
  | d + 1, f :: fs, xs, ys, bs, h, d', hd, w => by
    simp only [eqFs] at h
    cases hn : f.name == "_" with
    | true => rw [hn] at h; cases h
    | false =>
      rw [hn] at h
      simp only [cond_false] at h
      cases ha : partV P f.type xs f.offset with
      | none => rw [ha] at h; cases h
      | some a =>
        cases hb : partV P f.type ys f.offset with
        | none => rw [ha, hb] at h; cases h
        | some b =>
          rw [ha, hb] at h
          simp only at h
          cases hr : eqV P d f.type a b with
          | none => rw [hr] at h; cases h
          | some r =>
            cases hrs : eqFs P d fs xs ys with
            | none => rw [hr, hrs] at h; cases h
            | some rs =>
              rw [hr, hrs] at h
              simp only [Option.some.injEq] at h
              subst h
              have h1 := eqV_sound d f.type a b r hr d' (by omega) w
              have h2 := eqFs_sound d fs xs ys rs hrs d' (by omega) w
              have hn' : f.name ≠ "_" := by simpa using hn
              rw [Op.eqFields]
              simp only [if_pos hn', Sem.run_bind, part_sound P ha, part_sound P hb, h1, Result.andThen_ok]
              have hc : conj (r :: rs) = (r && conj rs) := by cases rs <;> simp [conj]
              rw [hc]
              cases r
              · simp
              · simpa using h2
end

theorem eqTop_sound {t : TypeId} {x y : Value} {b : Bool} (h : eqTop P t x y = some b) (w : World) :
    (Op.equal t x y).run P w = .ok b w ∧ ∀ (op : BinOp) (ox oy : Operand), (eqGuard op t ox oy x y).run P w = .ok () w := by
  have key : eqV P 40 t x y = some b → (Op.equal t x y).run P w = .ok b w := fun h => eqV_sound P 40 t x y b h Op.maxDepth (by decide) w
  unfold eqTop at h
  cases x with
  | agg xs =>
    simp only at h
    cases hg : P.eqGuardType P.depth t with
    | true => rw [hg] at h; cases h
    | false =>
      rw [hg] at h
      simp only [cond_false] at h
      refine ⟨key h, fun op ox oy => ?_⟩
      cases y with
      | agg ys => cases op <;> simp [eqGuard, hg]
      | _ => cases op <;> rfl
  | nilIface => cases h
  | _ => exact ⟨key h, fun op ox oy => by cases op <;> rfl⟩

theorem optK_some {α : Type} {o : Option α} {k : α → Prop} (h : optK o k) : ∃ x, o = some x ∧ k x := by
  cases o with
  | none => exact h.elim
  | some x => exact ⟨x, rfl, h⟩
theorem ptrK_some {o : Option Addr} {k : Addr → Prop} (h : ptrK o k) : ∃ x, o = some x ∧ k x := by
  cases o with
  | none => exact h.elim
  | some x => exact ⟨x, rfl, h⟩

theorem eql_sound {op : BinOp} {t : TypeId} {x y : Value} {k : Value → Prop} (h : eqlK P op t x y k)
    (he : ∀ w, (binOp .eql t x y).run P w = ((Op.equal t x y).run P w).andThen fun b w' => .ok (.bool b) w')
    (hn : ∀ w, (binOp .neq t x y).run P w = ((Op.equal t x y).run P w).andThen fun b w' => .ok (.bool (!b)) w') :
    ∃ u, k u ∧ (∀ k', k' u → eqlK P op t x y k') ∧ ∀ w, (binOp op t x y).run P w = .ok u w ∧ ∀ ox oy, (eqGuard op t ox oy x y).run P w = .ok () w := by
  cases op <;> simp only [eqlK] at h ⊢ <;> first | exact h.elim | skip
  · obtain ⟨b, hb, hkb⟩ := optK_some h
    refine ⟨_, hkb, fun k' hk' => by simp only [hb, optK]; exact hk', fun w => ⟨?_, (eqTop_sound P hb w).2 _⟩⟩
    rw [he, (eqTop_sound P hb w).1]; rfl
  · obtain ⟨b, hb, hkb⟩ := optK_some h
    refine ⟨_, hkb, fun k' hk' => by simp only [hb, optK]; exact hk', fun w => ⟨?_, (eqTop_sound P hb w).2 _⟩⟩
    rw [hn, (eqTop_sound P hb w).1]; rfl

theorem bin_sound {op : BinOp} {t : TypeId} {x y : Value} {k : Value → Prop} (h : binK P op t x y k) :
    ∃ u, k u ∧ (∀ k', k' u → binK P op t x y k') ∧ ∀ w, (binOp op t x y).run P w = .ok u w ∧ ∀ ox oy, (eqGuard op t ox oy x y).run P w = .ok () w := by
  cases x with
  | int kd m =>
    cases y <;> first | exact h.elim | skip
    obtain ⟨u, h1, h2, h3⟩ := intBin_sound P (t := t) h
    exact ⟨u, h1, h2, fun w => ⟨h3 w, fun ox oy => by cases op <;> rfl⟩⟩
  | string a =>
    cases y <;> first | exact h.elim | skip
    obtain ⟨u, h1, h2, h3⟩ := strBin_sound P (t := t) h
    exact ⟨u, h1, h2, fun w => ⟨h3 w, fun ox oy => by cases op <;> rfl⟩⟩
  | float => exact h.elim
  | complex => exact h.elim
  | _ => exact eql_sound P h (fun w => by simp [binOp]) (fun w => by simp [binOp])
end
end Go.Proofs.Ytkpncpcgkpadgaa.GH
