/- GH, fourth part: the rest of the operations that touch no memory. -/
import Derived.Test.YtkpncpcgkpadgaaGhC
set_option linter.all false
namespace Go.Proofs.Ytkpncpcgkpadgaa.GH
open Go

section
variable (P : Program)

theorem un_sound {op : UnOp} {x : Value} {k : Value → Prop} (h : unK op x k) :
    ∃ u, k u ∧ (∀ k', k' u → unK op x k') ∧ ∀ w, (Op.unary op x).run P w = .ok u w := by
  cases op <;> cases x <;> first
    | exact h.elim
    | exact ⟨_, h, fun k' h => h, fun w => by simp [Op.unary, Op.intArith]⟩

theorem conv_sound {src dst : TypeId} {x : Value} {k : Value → Prop} (h : convK P src dst x k) :
    ∃ u, k u ∧ (∀ k', k' u → convK P src dst x k') ∧ ∀ w, (convert src dst x).run P w = .ok u w := by
  unfold convK at h ⊢
  split at h
  · rename_i hs hu
    refine ⟨_, h, fun k' h => h, fun w => ?_⟩
    simp [convert, Go.underlying, hu, hs, Conv.intToInt]
  · rename_i hs hu
    refine ⟨_, h, fun k' h => h, fun w => ?_⟩
    simp [convert, Go.underlying, hu, hs]
  · exact h.elim

theorem add_zero' (a : Addr) : a.add 0 = a := by simp [Addr.add]

theorem fieldAddr_sound {t : TypeId} {x : AV} {f : Nat} {k : AV → Prop} (h : fieldAddrK P t x f k) :
    ∃ u, k u ∧ (∀ k', k' u → fieldAddrK P t x f k') ∧ (∀ S : Sto, wfAV S x → wfAV S u) ∧ ∀ bs v, AVr bs x v → ∃ v', AVr bs u v' ∧ ∀ w, (Instr.fieldAt t v f).run P w = .ok v' w := by
  unfold fieldAddrK at h ⊢
  cases hu : P.underlying t with
  | none => rw [hu] at h; exact h.elim
  | some d =>
    rw [hu] at h
    cases d <;> first | exact h.elim | skip
    rename_i fs
    simp only at h ⊢
    cases hf : fs[f]? with
    | none => rw [hf] at h; exact h.elim
    | some fd =>
      rw [hf] at h
      simp only at h ⊢
      cases hi : P.info? fd.type with
      | none => rw [hi] at h; exact h.elim
      | some i =>
        rw [hi] at h
        simp only at h ⊢
        cases hz : Nat.beq i.size 0 with
        | true => rw [hz] at h; exact h.elim
        | false =>
          rw [hz] at h
          simp only [cond_false] at h ⊢
          have hz' : ¬ i.size = 0 := fun e => by rw [e] at hz; cases hz
          have run : ∀ (a : Addr) (w : World), (Instr.fieldAt t (.pointer (some a)) f).run P w = .ok (.pointer (some (a.add fd.offset))) w := by
            intro a w
            simp [Instr.fieldAt, Go.underlying, hu, hf, Instr.sureAddr, fieldPlace, sizeOf, typeInfo, hi, hz']
          cases x with
          | loc b off =>
            refine ⟨_, h, fun k' h => h, fun S hw => (by first | exact hw | trivial), fun bs v hv => ?_⟩
            cases hv
            exact ⟨_, rfl, fun w => by rw [run, add_spot rfl]⟩
          | v y =>
            cases y <;> first | exact h.elim | skip
            obtain ⟨a, rfl, ha⟩ := ptrK_some h
            refine ⟨_, ha, fun k' h => h, fun S hw => (by first | exact hw | trivial), fun bs v hv => ?_⟩
            cases hv
            exact ⟨_, rfl, fun w => run _ w⟩
          | _ => exact h.elim

theorem indexAddr_sound {t : TypeId} {x ix : AV} {k : AV → Prop} (h : indexAddrK P t x ix k) :
    ∃ u, k u ∧ (∀ k', k' u → indexAddrK P t x ix k') ∧ (∀ S : Sto, wfAV S x → wfAV S u) ∧ ∀ bs v vi, AVr bs x v → AVr bs ix vi → ∃ v', AVr bs u v' ∧ ∀ w, (Instr.indexAt t v vi).run P w = .ok v' w := by
  unfold indexAddrK at h ⊢
  split at h
  · rename_i e kd i hu
    split at h
    · rename_i ie A n c hie
      obtain ⟨a, rfl, hb, hk⟩ := ptrK_some h
      refine ⟨_, hk, fun k' h => ⟨hb, h⟩, fun S hw => (by first | exact hw | trivial), fun bs v vi hv hvi => ?_⟩
      cases hv; cases hvi
      refine ⟨_, rfl, fun w => ?_⟩
      simp [Instr.indexAt, asIntOf, Go.underlying, hu, hb, sizeOf, typeInfo, hie]
    · exact h.elim
  · rename_i len e kd i hu
    split at h
    · rename_i ie A hie
      obtain ⟨a, rfl, hb, hk⟩ := ptrK_some h
      refine ⟨_, hk, fun k' h => ⟨hb, h⟩, fun S hw => (by first | exact hw | trivial), fun bs v vi hv hvi => ?_⟩
      cases hv; cases hvi
      refine ⟨_, rfl, fun w => ?_⟩
      simp [Instr.indexAt, asIntOf, Go.underlying, hu, hb, sizeOf, typeInfo, hie, Instr.sureAddr]
    · rename_i ie b off hie
      obtain ⟨hb, hk⟩ := h
      refine ⟨_, hk, fun k' h => ⟨hb, h⟩, fun S hw => (by first | exact hw | trivial), fun bs v vi hv hvi => ?_⟩
      cases hv; cases hvi
      refine ⟨_, rfl, fun w => ?_⟩
      simp [Instr.indexAt, asIntOf, Go.underlying, hu, hb, sizeOf, typeInfo, hie, Instr.sureAddr, add_spot]
    · exact h.elim
  · exact h.elim

theorem bnd_sound {x : Option AV} {dflt y : Nat} {k : Nat → Prop} (h : bndK x dflt y k) :
    ∃ n, k n ∧ (∀ k', k' n → bndK x dflt y k') ∧ ((x = none ∧ n = dflt) ∨ ∃ kd i, x = some (.v (.int kd i)) ∧ 0 ≤ i ∧ i ≤ (y : Int) ∧ n = i.toNat) := by
  unfold bndK at h ⊢
  split at h
  · exact ⟨_, h, fun k' h => h, .inl ⟨rfl, rfl⟩⟩
  · exact ⟨_, h.2, fun k' h' => ⟨h.1, h'⟩, .inr ⟨_, _, rfl, h.1.1, h.1.2, rfl⟩⟩
  · exact h.elim

theorem bounds_sound {isS : Bool} {len cap h' l' : Nat} {hi lo : Option AV} {vh vl : Option Value} {bs : Nat → Nat} (hh : (hi = none ∧ h' = len) ∨ ∃ kd i, hi = some (.v (.int kd i)) ∧ 0 ≤ i ∧ i ≤ (cap : Int) ∧ h' = i.toNat)
    (hl : (lo = none ∧ l' = 0) ∨ ∃ kd i, lo = some (.v (.int kd i)) ∧ 0 ≤ i ∧ i ≤ (h' : Int) ∧ l' = i.toNat)
    (rh : (hi = none ∧ vh = none) ∨ ∃ x v, hi = some x ∧ vh = some v ∧ AVr bs x v) (rl : (lo = none ∧ vl = none) ∨ ∃ x v, lo = some x ∧ vl = some v ∧ AVr bs x v) (w : World) :
    (Instr.sliceBounds isS len cap vl vh none).run P w = .ok (l', h', cap) w := by
  have hb : ∀ (kd : IntKind) (i : Int) (y : Nat) (c : BoundsCode), 0 ≤ i → i ≤ (y : Int) → (Instr.sliceBound (.int kd i) y c).run P w = .ok i.toNat w := by
    intro kd i y c h0 h1
    simp [Instr.sliceBound, asIntOf, h0, h1]
  rcases hh with ⟨rfl, rfl⟩ | ⟨kd, i, rfl, h0, h1, rfl⟩
  · rcases rh with ⟨-, rfl⟩ | ⟨_, _, h, _⟩
    · rcases hl with ⟨rfl, rfl⟩ | ⟨kd', j, rfl, j0, j1, rfl⟩
      · rcases rl with ⟨-, rfl⟩ | ⟨_, _, h, _⟩
        · simp [Instr.sliceBounds]
        · cases h
      · rcases rl with ⟨h, -⟩ | ⟨x, v, h, rfl, hv⟩
        · cases h
        · cases h; cases hv
          simp [Instr.sliceBounds, hb _ _ _ _ j0 j1]
    · cases h
  · rcases rh with ⟨h, -⟩ | ⟨x, v, h, rfl, hv⟩
    · cases h
    · cases h; cases hv
      rcases hl with ⟨rfl, rfl⟩ | ⟨kd', j, rfl, j0, j1, rfl⟩
      · rcases rl with ⟨-, rfl⟩ | ⟨_, _, h, _⟩
        · simp [Instr.sliceBounds, hb _ _ _ _ h0 h1]
        · cases h
      · rcases rl with ⟨h, -⟩ | ⟨x, v, h, rfl, hv⟩
        · cases h
        · cases h; cases hv
          simp [Instr.sliceBounds, hb _ _ _ _ h0 h1, hb _ _ _ _ j0 j1]

theorem opt_map_rel {x : Option Operand} {ev : Operand → AV} {ρ : Operand → Value} {bs : Nat → Nat} (hr : ∀ o, AVr bs (ev o) (ρ o)) :
    (x.map ev = none ∧ x.map ρ = none) ∨ ∃ a v, x.map ev = some a ∧ x.map ρ = some v ∧ AVr bs a v := by
  cases x with
  | none => exact .inl ⟨rfl, rfl⟩
  | some o => exact .inr ⟨_, _, rfl, rfl, hr o⟩

theorem subA_eq (A : Option Addr) (c l sz : Nat) : subA A c l sz = if c = l then A else A.map (·.add (l * sz)) := by
  cases l with
  | zero =>
    simp only [subA]
    split
    · rfl
    · cases A <;> simp [add_zero']
  | succ l => rfl

theorem slice_sound {t : TypeId} {x : AV} {lo hi : Option AV} {k : AV → Prop} (h : sliceK P t x lo hi k) :
    ∃ u, k u ∧ (∀ k', k' u → sliceK P t x lo hi k') ∧ (∀ S : Sto, wfAV S x → wfAV S u) ∧ ∀ bs v vl vh, AVr bs x v → ((lo = none ∧ vl = none) ∨ ∃ x v, lo = some x ∧ vl = some v ∧ AVr bs x v) →
      ((hi = none ∧ vh = none) ∨ ∃ x v, hi = some x ∧ vh = some v ∧ AVr bs x v) → ∃ v', AVr bs u v' ∧ ∀ w, (Instr.sliceAt t v vl vh none).run P w = .ok v' w := by
  unfold sliceK at h ⊢
  split at h
  · rename_i s hu
    obtain ⟨n, h1, h2, h3⟩ := bnd_sound h
    obtain ⟨l, g1, g2, g3⟩ := bnd_sound h1
    refine ⟨_, g1, fun k' hk' => h2 _ (g2 _ hk'), fun S hw => (by first | exact hw | trivial), fun bs v vl vh hv rl rh => ?_⟩
    cases hv
    refine ⟨_, rfl, fun w => ?_⟩
    simp [Instr.sliceAt, Instr.slice, Go.underlying, hu, bounds_sound P h3 g3 rh rl]
  · rename_i e A n c hu
    split at h
    · rename_i ie hie
      obtain ⟨n', h1, h2, h3⟩ := bnd_sound h
      obtain ⟨l, g1, g2, g3⟩ := bnd_sound h1
      refine ⟨_, g1, fun k' hk' => h2 _ (g2 _ hk'), fun S hw => (by first | exact hw | trivial), fun bs v vl vh hv rl rh => ?_⟩
      cases hv
      refine ⟨_, rfl, fun w => ?_⟩
      simp [Instr.sliceAt, Instr.slice, Go.underlying, hu, bounds_sound P h3 g3 rh rl, sizeOf, typeInfo, hie, subA_eq]
    · exact h.elim
  · rename_i m e A hu
    split at h
    · rename_i ie hie
      obtain ⟨a, rfl, h⟩ := ptrK_some h
      have h : bndK hi m m (fun h => bndK lo 0 h fun l => k (.v (.slice (subA (some a) m l ie.size) (h - l) (m - l)))) := h
      obtain ⟨n', h1, h2, h3⟩ := bnd_sound h
      obtain ⟨l, g1, g2, g3⟩ := bnd_sound h1
      refine ⟨_, g1, fun k' hk' => h2 (fun h => bndK lo 0 h fun l => k' (.v (.slice (subA (some a) m l ie.size) (h - l) (m - l)))) (g2 (fun l => k' (.v (.slice (subA (some a) m l ie.size) (n' - l) (m - l)))) hk'), fun S hw => (by first | exact hw | trivial), fun bs v vl vh hv rl rh => ?_⟩
      cases hv
      refine ⟨_, rfl, fun w => ?_⟩
      have hsub : subA (some a) m l ie.size = some (if m = l then a else a.add (l * ie.size)) := by rw [subA_eq]; split <;> rfl
      rw [hsub]
      simp [Instr.sliceAt, Go.underlying, hu, bounds_sound P h3 g3 rh rl, sizeOf, typeInfo, hie, Instr.sureAddr]
    · exact h.elim
  · exact h.elim

theorem index_sound {t : TypeId} {x ix : AV} {k : AV → Prop} (h : indexK P t x ix k) :
    ∃ u, k u ∧ (∀ k', k' u → indexK P t x ix k') ∧ (∀ S : Sto, wfAV S x → wfAV S u) ∧ ∀ bs v vi, AVr bs x v → AVr bs ix vi → ∃ v', AVr bs u v' ∧ ∀ w, (Instr.index t v vi).run P w = .ok v' w := by
  unfold indexK at h ⊢
  split at h
  · rename_i s kd i hu
    refine ⟨_, h.2, fun k' hk' => ⟨h.1, hk'⟩, fun S hw => (by first | exact hw | trivial), fun bs v vi hv hvi => ?_⟩
    cases hv; cases hvi
    refine ⟨_, rfl, fun w => ?_⟩
    have hlt : i.toNat < s.size := by omega
    have : s[i.toNat]? = some s[i.toNat]! := by
      rw [getElem!_pos s i.toNat hlt]; exact getElem?_pos s i.toNat hlt
    simp [Instr.index, asIntOf, Go.underlying, hu, h.1.1, this]
  · exact h.elim
  · exact h.elim

theorem len_sound {t : TypeId} {x : AV} {k : AV → Prop} {ts : List TypeId} {ty : TypeId} (h : lenK P t x k) :
    ∃ u, k u ∧ (∀ k', k' u → lenK P t x k') ∧ (∀ S : Sto, wfAV S x → wfAV S u) ∧ ∀ bs v (xs : List Value), AVr bs x v → ∃ v', AVr bs u v' ∧ ∀ w, (Builtin.len_ (t :: ts).toArray ty (v :: xs).toArray).run P w = .ok v' w := by
  unfold lenK at h ⊢
  split at h
  · rename_i s hu
    refine ⟨_, h, fun k' h => h, fun S hw => (by first | exact hw | trivial), fun bs v xs hv => ?_⟩
    cases hv
    exact ⟨_, rfl, fun w => by simp [Builtin.len_, Go.underlying, hu, goInt]⟩
  · rename_i n _ hu
    refine ⟨_, h, fun k' h => h, fun S hw => (by first | exact hw | trivial), fun bs v xs hv => ?_⟩
    exact ⟨_, rfl, fun w => by simp [Builtin.len_, Go.underlying, hu, goInt]⟩
  · rename_i n _ hu
    refine ⟨_, h, fun k' h => h, fun S hw => (by first | exact hw | trivial), fun bs v xs hv => ?_⟩
    cases hv
    exact ⟨_, rfl, fun w => by simp [Builtin.len_, Go.underlying, hu, goInt]⟩
  · rename_i n hu
    refine ⟨_, h, fun k' h => h, fun S hw => (by first | exact hw | trivial), fun bs v xs hv => ?_⟩
    cases hv
    exact ⟨_, rfl, fun w => by simp [Builtin.len_, Go.underlying, hu, goInt]⟩
  · exact h.elim

theorem map_pair {α β : Type} {f : α → β} {l : List α} {x y : β} (h : l.map f = [x, y]) : ∃ a b, l = [a, b] ∧ f a = x ∧ f b = y := by
  cases l with
  | nil => cases h
  | cons a l =>
    cases l with
    | nil => cases h
    | cons b l =>
      cases l with
      | nil => simp only [List.map_cons, List.map_nil, List.cons.injEq, and_true] at h; exact ⟨a, b, rfl, h.1, h.2⟩
      | cons c l => simp at h

theorem len_wf {t : TypeId} {x : AV} {k : AV → Prop} (h : lenK P t x k) : lenK P t x fun u => k u ∧ ∀ S : Sto, wfAV S u := by
  unfold lenK at h ⊢
  split at h
  · exact ⟨h, fun _ => trivial⟩
  · exact ⟨h, fun _ => trivial⟩
  · exact ⟨h, fun _ => trivial⟩
  · exact ⟨h, fun _ => trivial⟩
  · exact h.elim

theorem cap_sound {t : TypeId} {x : AV} {k : AV → Prop} {ts : List TypeId} {ty : TypeId} (h : capK P t x k) :
    ∃ u, k u ∧ (∀ k', k' u → capK P t x k') ∧ (∀ S : Sto, wfAV S u) ∧ ∀ bs v (xs : List Value), AVr bs x v → ∃ v', AVr bs u v' ∧ ∀ w, (Builtin.cap_ (t :: ts).toArray ty (v :: xs).toArray).run P w = .ok v' w := by
  unfold capK at h ⊢
  split at h
  · rename_i hu
    refine ⟨_, h, fun k' h => h, fun _ => trivial, fun bs v xs hv => ?_⟩
    cases hv
    exact ⟨_, rfl, fun w => by simp [Builtin.cap_, Go.underlying, hu, goInt]⟩
  · exact h.elim

theorem builtin_sound {b : Builtin} {ts : List TypeId} {es : List Operand} {ev : Operand → AV} {k : AV → Prop} {ty : TypeId} {consts : Array Bool} (h : builtinK P b ts (es.map ev) k) :
    ∃ u, k u ∧ (∀ k', k' u → builtinK P b ts (es.map ev) k') ∧ (∀ S : Sto, True → wfAV S u) ∧ ∀ bs ρ, (∀ o, AVr bs (ev o) (ρ o)) → ∃ v', AVr bs u v' ∧ ∀ w, (builtin b ts.toArray ty consts (es.map ρ).toArray).run P w = .ok (.value v') w := by
  unfold builtinK at h ⊢
  split at h
  · rename_i t ts' x xs hx
    obtain ⟨u, ⟨h1, hwf⟩, h2, _, h3⟩ := len_sound P (ts := ts') (ty := ty) (len_wf P h)
    refine ⟨u, h1, fun k' hk' => h2 k' hk', fun S _ => hwf S, fun bs ρ hr => ?_⟩
    cases es with
    | nil => cases hx
    | cons e es' =>
      simp only [List.map_cons, List.cons.injEq] at hx
      obtain ⟨v', g1, g2⟩ := h3 bs (ρ e) (es'.map ρ) (by rw [← hx.1]; exact hr e)
      exact ⟨v', g1, fun w => by simp only [builtin, List.map_cons, Sem.run_bind, g2 w, Result.andThen_ok, Sem.run_pure]⟩
  · rename_i t ts' x xs hx
    obtain ⟨u, h1, h2, hwf, h3⟩ := cap_sound P (ts := ts') (ty := ty) h
    refine ⟨u, h1, fun k' hk' => h2 k' hk', fun S _ => hwf S, fun bs ρ hr => ?_⟩
    cases es with
    | nil => cases hx
    | cons e es' =>
      simp only [List.map_cons, List.cons.injEq] at hx
      obtain ⟨v', g1, g2⟩ := h3 bs (ρ e) (es'.map ρ) (by rw [← hx.1]; exact hr e)
      exact ⟨v', g1, fun w => by simp only [builtin, List.map_cons, Sem.run_bind, g2 w, Result.andThen_ok, Sem.run_pure]⟩
  · rename_i kd x kd' y hx
    refine ⟨_, h, fun k' h => h, fun S hw => (by first | exact hw | trivial), fun bs ρ hr => ?_⟩
    · obtain ⟨e1, e2, rfl, x1, x2⟩ := map_pair hx
      have r1 := hr e1; have r2 := hr e2
      rw [x1] at r1; rw [x2] at r2
      simp only [AVr] at r1 r2
      exact ⟨_, rfl, fun w => by simp [builtin, Builtin.min_, r1, r2, Builtin.min2, mnx]⟩
  · rename_i kd x kd' y hx
    refine ⟨_, h, fun k' h => h, fun S hw => (by first | exact hw | trivial), fun bs ρ hr => ?_⟩
    · obtain ⟨e1, e2, rfl, x1, x2⟩ := map_pair hx
      have r1 := hr e1; have r2 := hr e2
      rw [x1] at r1; rw [x2] at r2
      simp only [AVr] at r1 r2
      exact ⟨_, rfl, fun w => by simp [builtin, Builtin.max_, r1, r2, Builtin.max2, mnx]⟩
  · exact h.elim

theorem extract_sound {x : AV} {i : Nat} {k : AV → Prop} (h : extractK x i k) :
    ∃ u, k u ∧ (∀ k', k' u → extractK x i k') ∧ (∀ S : Sto, wfAV S x → wfAV S u) ∧ ∀ bs v, AVr bs x v → ∃ v', AVr bs u v' ∧ ∀ w, (Instr.extract v i).run P w = .ok v' w := by
  unfold extractK at h ⊢
  split at h
  · rename_i vs
    obtain ⟨u, hu, hk⟩ := optK_some h
    refine ⟨_, hk, fun k' hk' => by simp only [hu, optK]; exact hk', fun S hw => (by first | exact hw | trivial), fun bs v hv => ?_⟩
    cases hv
    exact ⟨_, rfl, fun w => by rw [Array.getElem?_toList] at hu; simp [Instr.extract, hu]⟩
  · exact h.elim

theorem field_sound {t : TypeId} {x : AV} {f : Nat} {k : AV → Prop} (h : fieldK P t x f k) :
    ∃ u, k u ∧ (∀ k', k' u → fieldK P t x f k') ∧ (∀ S : Sto, wfAV S x → wfAV S u) ∧ ∀ bs v, AVr bs x v → ∃ v', AVr bs u v' ∧ ∀ w, (Instr.field t v f).run P w = .ok v' w := by
  unfold fieldK at h ⊢
  split at h
  · rename_i fs cs hu
    split at h
    · rename_i fd hf
      obtain ⟨u, hpu, hk⟩ := optK_some h
      refine ⟨_, hk, fun k' hk' => by simp only [hpu, optK]; exact hk', fun S hw => (by first | exact hw | trivial), fun bs v hv => ?_⟩
      cases hv
      refine ⟨_, rfl, fun w => ?_⟩
      have := part_sound P hpu w
      simp only [Array.toArray_toList] at this
      simp [Instr.field, Go.underlying, hu, hf, asAgg, this]
    · exact h.elim
  · exact h.elim

theorem nilCheck_sound {x : AV} {k : AV → Prop} (h : nilCheckK x k) :
    ∃ u, k u ∧ (∀ k', k' u → nilCheckK x k') ∧ (∀ S : Sto, wfAV S x → wfAV S u) ∧ ∀ bs (ρ : Operand → Value) (y : Operand) (o : Oper), AVr bs x (ρ y) → o.op = .nilCheck y → ∃ v', AVr bs u v' ∧ ∀ w, (execOp ρ o).run P w = .ok (.value v') w := by
  unfold nilCheckK at h ⊢
  split at h
  · refine ⟨_, h, fun k' h => h, fun S hw => (by first | exact hw | trivial), fun bs ρ y o hv ho => ?_⟩
    simp only [AVr] at hv
    exact ⟨_, rfl, fun w => by simp [execOp, ho, hv]⟩
  · obtain ⟨a, rfl, h⟩ := ptrK_some h
    refine ⟨_, h, fun k' h => h, fun S hw => (by first | exact hw | trivial), fun bs ρ y o hv ho => ?_⟩
    simp only [AVr] at hv
    exact ⟨_, rfl, fun w => by simp [execOp, ho, hv]⟩
  · refine ⟨_, h, fun k' h => h, fun S hw => (by first | exact hw | trivial), fun bs ρ y o hv ho => ?_⟩
    simp only [AVr] at hv
    exact ⟨_, rfl, fun w => by simp [execOp, ho, hv]⟩
  · exact h.elim

/-! ### a struct or an array made of its parts -/
theorem setL_eq : ∀ (xs : List Value) (cs : List Value) (i : Nat), (setL cs i xs).toArray = (xs.toArray.zipIdx.foldl (fun cs (c, j) => cs.setIfInBounds (i + j) c) cs.toArray) := by
  intro xs cs i
  have key : ∀ (xs cs : List Value) (i j : Nat), (xs.zipIdx j).foldl (fun (cs : Array Value) (p : Value × Nat) => cs.setIfInBounds (i + p.2) p.1) cs.toArray = (setL cs (i + j) xs).toArray := by
    intro xs
    induction xs with
    | nil => intro cs i j; rfl
    | cons x xs ih =>
      intro cs i j
      simp only [List.zipIdx_cons, List.foldl_cons, setL]
      rw [List.setIfInBounds_toArray, ih, Nat.add_assoc]
  have := key xs cs i 0
  rw [← Array.foldl_toList]
  simp only [Array.toList_zipIdx]
  rw [Nat.add_zero] at this
  rw [← this]

theorem fill_sound {place : Nat → Option (Nat × Nat)} {bs : Nat → Nat} : ∀ (parts : List (Nat × AV)) (vals : List (Nat × Value)) (cs r : List Value), fillV place cs parts = some r →
    parts.length = vals.length → (∀ (i : Nat) (x : Nat × AV) (v : Nat × Value), parts[i]? = some x → vals[i]? = some v → x.1 = v.1 ∧ AVr bs x.2 v.2) → Instr.fill place cs.toArray vals = some r.toArray
  | [], [], cs, r, h, _, _ => by simp only [fillV, Option.some.injEq] at h; subst h; rfl
  | [], _ :: _, _, _, _, h, _ => by cases h
  | _ :: _, [], _, _, _, h, _ => by cases h
  | (i, x) :: rest, (j, v) :: vs, cs, r, h, hl, hr => by
    obtain ⟨hij, hx⟩ := hr 0 (i, x) (j, v) rfl rfl
    simp only at hij hx
    subst hij
    cases x with
    | v y =>
      simp only [AVr] at hx
      rw [hx]
      simp only [fillV] at h
      simp only [Instr.fill]
      cases hp : place i with
      | none => rw [hp] at h; cases h
      | some os =>
        obtain ⟨off, size⟩ := os
        rw [hp] at h
        simp only at h ⊢
        cases hb : Nat.beq y.cells.size size && Nat.ble (off + size) cs.length with
        | false => rw [hb] at h; cases h
        | true =>
          rw [hb] at h
          simp only [cond_true] at h
          simp only [Bool.and_eq_true] at hb
          have h1 : y.cells.size = size := Nat.eq_of_beq_eq_true hb.1
          have h2 : off + size ≤ cs.length := Nat.le_of_ble_eq_true hb.2
          rw [if_neg (by simp; omega)]
          have := setL_eq y.cells.toList cs off
          simp only [Array.toArray_toList] at this
          rw [← this]
          exact fill_sound rest vs _ r h (by simpa using hl) (fun k a b ha hb => hr (k + 1) a b (by simpa using ha) (by simpa using hb))
    | _ => cases h

theorem places_sound (w : World) : ∀ (fs : List Field) (pl : List (Nat × Nat)), placesV P fs = some pl → (fs.mapM fun f => do pure (f.offset, ← sizeOf f.type) : Sem (List (Nat × Nat))).run P w = .ok pl w
  | [], pl, h => by simp only [placesV, Option.some.injEq] at h; subst h; rfl
  | f :: fs, pl, h => by
    simp only [placesV] at h
    cases hi : P.info? f.type with
    | none => rw [hi] at h; cases h
    | some i =>
      cases hr : placesV P fs with
      | none => rw [hi, hr] at h; cases h
      | some r =>
        rw [hi, hr] at h
        simp only [Option.some.injEq] at h
        subst h
        simp only [List.mapM_cons, Sem.run_bind, sizeOf, typeInfo, run_program, Result.andThen_ok, hi, Sem.run_pure]
        have := places_sound w fs r hr
        simp only [sizeOf, typeInfo, bind_pure_comp] at this ⊢
        rw [this]; rfl

theorem build_sound {t : TypeId} {parts : List (Nat × AV)} {cs : List Value} (h : buildV P t parts = some cs) {bs : Nat → Nat} {vals : List (Nat × Value)} (hl : parts.length = vals.length)
    (hr : ∀ (i : Nat) (x : Nat × AV) (v : Nat × Value), parts[i]? = some x → vals[i]? = some v → x.1 = v.1 ∧ AVr bs x.2 v.2) (w : World) : (Instr.build t vals.toArray).run P w = .ok (.agg cs.toArray) w := by
  unfold buildV at h
  split at h
  · rename_i i fs hi hu
    split at h
    · rename_i z pl hz hpl
      have hf := fill_sound parts vals _ cs h hl hr
      have hp := places_sound P w fs.toList pl hpl
      have hp' : (fs.mapM fun f => do pure (f.offset, ← sizeOf f.type) : Sem (Array (Nat × Nat))).run P w = .ok pl.toArray w := by
        rw [Array.mapM_eq_mapM_toList]
        simp only [Sem.run_map, hp, Result.andThen_ok]
      simp only [Array.toArray_toList] at hf
      simp only [Instr.build, zeroValue, typeInfo, Go.underlying, Sem.run_bind, run_program, Result.andThen_ok, hi, hz, hu, Sem.run_pure, hp']
      have : (fun (j : Nat) => pl.toArray[j]?) = fun (j : Nat) => pl[j]? := by funext j; simp
      simp only [this, hf]
      rfl
    · cases h
  · rename_i i n e hi hu
    split at h
    · rename_i z ie hz hie
      have hf := fill_sound parts vals _ cs h hl hr
      simp only [Array.toArray_toList] at hf
      simp only [Instr.build, zeroValue, sizeOf, typeInfo, Go.underlying, Sem.run_bind, run_program, Result.andThen_ok, hi, hz, hu, hie, Sem.run_pure, hf]
    · cases h
  · cases h

theorem vals_sound {ev : Operand → AV} {bs : Nat → Nat} {ρ : Operand → Value} (hr : ∀ o, AVr bs (ev o) (ρ o)) : ∀ (es : List Operand) (vs : List Value), valsV (es.map ev) = some vs → es.map ρ = vs
  | [], vs, h => by simp only [List.map_nil, valsV, Option.some.injEq] at h; subst h; rfl
  | e :: es, vs, h => by
    simp only [List.map_cons] at h
    have he := hr e
    cases hx : ev e with
    | v y =>
      rw [hx] at h he
      simp only [valsV] at h
      cases hv : valsV (es.map ev) with
      | none => rw [hv] at h; cases h
      | some r =>
        rw [hv] at h
        simp only [Option.some.injEq] at h
        subst h
        simp only [AVr] at he
        simp [he, vals_sound hr es r hv]
    | _ => rw [hx] at h; cases h

/-- The operations that touch no memory: one answer, whatever the world. -/
theorem pure_sound {o : Oper} {ev : Operand → AV} {k : AV → Prop} (h : pureK P ev o.op k) :
    ∃ u, k u ∧ (∀ k', k' u → pureK P ev o.op k') ∧ (∀ S : Sto, (∀ y, wfAV S (ev y)) → wfAV S u) ∧ ∀ bs ρ, (∀ x, AVr bs (ev x) (ρ x)) → ∃ v, AVr bs u v ∧ ∀ w, (execOp ρ o).run P w = .ok (.value v) w := by
  cases hop : o.op <;> rw [hop] at h <;> (try exact h.elim)
  case move x => exact ⟨_, h, fun _ h => h, fun S hw => hw x, fun bs ρ hr => ⟨_, hr x, fun w => by simp [execOp, hop]⟩⟩
  case assign x => exact ⟨_, h, fun _ h => h, fun S hw => hw x, fun bs ρ hr => ⟨_, hr x, fun w => by simp [execOp, hop]⟩⟩
  case pick c a b =>
    simp only [pureK] at h ⊢
    split at h
    · rename_i b' hc
      cases b' with
      | true =>
        refine ⟨_, h, fun k' h => h, fun S hw => hw a, fun bs ρ hr => ⟨_, hr a, fun w => ?_⟩⟩
        have := hr c; rw [hc] at this; simp only [AVr] at this
        simp [execOp, hop, this, asBool]
      | false =>
        refine ⟨_, h, fun k' h => h, fun S hw => hw b, fun bs ρ hr => ⟨_, hr b, fun w => ?_⟩⟩
        have := hr c; rw [hc] at this; simp only [AVr] at this
        simp [execOp, hop, this, asBool]
    · exact h.elim
  case build t parts =>
    obtain ⟨cs, hcs, hk⟩ := optK_some h
    refine ⟨_, hk, fun k' hk' => by simp only [pureK, hcs, optK]; exact hk', fun S hw => trivial, fun bs ρ hr => ⟨_, rfl, fun w => ?_⟩⟩
    have := build_sound P hcs (bs := bs) (vals := parts.toList.map fun p => (p.1, ρ p.2)) (by simp) (by
      intro i x v hx hv
      simp only [List.getElem?_map, Option.map_eq_some_iff] at hx hv
      obtain ⟨p, hp, rfl⟩ := hx
      obtain ⟨q, hq, rfl⟩ := hv
      rw [hp] at hq; cases hq
      exact ⟨rfl, hr _⟩) w
    have he : (parts.toList.map fun p => (p.1, ρ p.2)).toArray = parts.map fun p => (p.1, ρ p.2) := by
      apply Array.ext'; simp
    rw [he] at this
    simp [execOp, hop, this]
  case nilCheck x =>
    obtain ⟨u, h1, h2, h4, h3⟩ := nilCheck_sound P h
    exact ⟨u, h1, h2, fun S hw => h4 S (hw x), fun bs ρ hr => h3 bs ρ x o (hr x) hop⟩
  case binOp op t x y yt =>
    simp only [pureK] at h ⊢
    split at h
    · rename_i a b hx hy
      obtain ⟨u, h1, h2, h3⟩ := bin_sound P h
      refine ⟨_, h1, fun k' hk' => h2 (fun u => k' (.v u)) hk', fun S hw => trivial, fun bs ρ hr => ⟨_, rfl, fun w => ?_⟩⟩
      have r1 := hr x; have r2 := hr y
      rw [hx] at r1; rw [hy] at r2
      simp only [AVr] at r1 r2
      simp [execOp, hop, r1, r2, (h3 w).1, (h3 w).2]
    · exact h.elim
  case unOp op t x =>
    simp only [pureK, vK] at h ⊢
    split at h
    · rename_i a hx
      obtain ⟨u, h1, h2, h3⟩ := un_sound P h
      refine ⟨_, h1, fun k' hk' => h2 (fun u => k' (.v u)) hk', fun S hw => trivial, fun bs ρ hr => ⟨_, rfl, fun w => ?_⟩⟩
      have r1 := hr x
      rw [hx] at r1
      simp only [AVr] at r1
      simp [execOp, hop, r1, h3 w]
    · exact h.elim
  case convert s d x =>
    simp only [pureK, vK] at h ⊢
    split at h
    · rename_i a hx
      obtain ⟨u, h1, h2, h3⟩ := conv_sound P h
      refine ⟨_, h1, fun k' hk' => h2 (fun u => k' (.v u)) hk', fun S hw => trivial, fun bs ρ hr => ⟨_, rfl, fun w => ?_⟩⟩
      have r1 := hr x
      rw [hx] at r1
      simp only [AVr] at r1
      simp [execOp, hop, r1, h3 w]
    · exact h.elim
  case makeFunc fn first caps =>
    obtain ⟨xs, hxs, h⟩ := optK_some h
    obtain ⟨ys, hys, h⟩ := optK_some h
    refine ⟨_, h, fun k' hk' => by simp only [pureK, hxs, hys, optK]; exact hk', fun S hw => trivial, fun bs ρ hr => ⟨_, rfl, fun w => ?_⟩⟩
    have e1 : first.map ρ = xs.toArray := by apply Array.ext'; rw [Array.toList_map]; exact vals_sound hr _ _ hxs
    have e2 : caps.map ρ = ys.toArray := by apply Array.ext'; rw [Array.toList_map]; exact vals_sound hr _ _ hys
    simp [execOp, hop, Instr.makeFunc, e1, e2]
  case fieldAddr t x f =>
    obtain ⟨u, h1, h2, h4, h3⟩ := fieldAddr_sound P h
    refine ⟨u, h1, h2, fun S hw => h4 S (by first | exact hw x | trivial), fun bs ρ hr => ?_⟩
    obtain ⟨v', g1, g2⟩ := h3 bs _ (hr x)
    exact ⟨v', g1, fun w => by simp [execOp, hop, g2 w]⟩
  case field t x f =>
    obtain ⟨u, h1, h2, h4, h3⟩ := field_sound P h
    refine ⟨u, h1, h2, fun S hw => h4 S (by first | exact hw x | trivial), fun bs ρ hr => ?_⟩
    obtain ⟨v', g1, g2⟩ := h3 bs _ (hr x)
    exact ⟨v', g1, fun w => by simp [execOp, hop, g2 w]⟩
  case indexAddr t x i =>
    obtain ⟨u, h1, h2, h4, h3⟩ := indexAddr_sound P h
    refine ⟨u, h1, h2, fun S hw => h4 S (by first | exact hw x | trivial), fun bs ρ hr => ?_⟩
    obtain ⟨v', g1, g2⟩ := h3 bs _ _ (hr x) (hr i)
    exact ⟨v', g1, fun w => by simp [execOp, hop, g2 w]⟩
  case index t x i =>
    obtain ⟨u, h1, h2, h4, h3⟩ := index_sound P h
    refine ⟨u, h1, h2, fun S hw => h4 S (by first | exact hw x | trivial), fun bs ρ hr => ?_⟩
    obtain ⟨v', g1, g2⟩ := h3 bs _ _ (hr x) (hr i)
    exact ⟨v', g1, fun w => by simp [execOp, hop, g2 w]⟩
  case slice t x lo hi mx =>
    cases mx with
    | some m => exact h.elim
    | none =>
      obtain ⟨u, h1, h2, h4, h3⟩ := slice_sound P h
      refine ⟨u, h1, h2, fun S hw => h4 S (by first | exact hw x | trivial), fun bs ρ hr => ?_⟩
      obtain ⟨v', g1, g2⟩ := h3 bs _ _ _ (hr x) (opt_map_rel hr) (opt_map_rel hr)
      exact ⟨v', g1, fun w => by simp [execOp, hop, g2 w]⟩
  case extract x i =>
    obtain ⟨u, h1, h2, h4, h3⟩ := extract_sound P h
    refine ⟨u, h1, h2, fun S hw => h4 S (by first | exact hw x | trivial), fun bs ρ hr => ?_⟩
    obtain ⟨v', g1, g2⟩ := h3 bs _ (hr x)
    exact ⟨v', g1, fun w => by simp [execOp, hop, g2 w]⟩
  case call c =>
    obtain ⟨callee, args, ats⟩ := c
    cases callee <;> first | exact h.elim | skip
    rename_i b
    obtain ⟨u, h1, h2, h4, h3⟩ := builtin_sound P (ty := o.type) (consts := args.map fun | .const _ => true | _ => false) h
    refine ⟨u, h1, h2, fun S hw => h4 S (by first | exact hw x | trivial), fun bs ρ hr => ?_⟩
    obtain ⟨v', g1, g2⟩ := h3 bs ρ hr
    refine ⟨v', g1, fun w => ?_⟩
    have := g2 w
    have e1 : (args.toList.map ρ).toArray = args.map ρ := by apply Array.ext'; simp
    simp only [Array.toArray_toList, e1] at this
    simp only [execOp, hop, resolve, invoke, Sem.run_bind, Sem.run_pure, Result.andThen_ok]
    exact this
end
end Go.Proofs.Ytkpncpcgkpadgaa.GH
