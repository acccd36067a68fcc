/- Trees of a table's grammars: which are brought back. -/
import Derived.Test.YtkhmghobnocakaaCAllowedRef
import Derived.Test.YtkhmghobnocakaaCFlOk
set_option linter.all false
namespace Go.Proofs.Ytkhmghobnocakaa
open Go Go.Proofs.Ytkhmghobnocakaa.GH

theorem layAll_ne {t : Tbl} : ∀ x ∈ layAll t, x.1.right ≠ [] := by
  intro x hx
  unfold layAll at hx
  rcases List.mem_append.1 hx with hx | hx
  · obtain ⟨j, _, _, h⟩ := mem_layRules hx
    rcases h with e | ⟨kd, o, _, e⟩
    · rw [e]; simp
    · rw [e]; unfold layRule; (repeat' split) <;> simp
  · unfold layTail at hx
    rcases List.mem_cons.1 hx with rfl | hx
    · simp
    · split at hx
      · rw [List.mem_singleton] at hx; subst hx; simp
      · cases hx

mutual
theorem bok_wt {t : Tbl} : ∀ (x : Tree) (y : Sym), WT (layG t) y x → BOk (layF t) x
  | .mk r tm ks, y, h => by
    simp only [WT] at h
    simp only [BOk]
    rcases h with ⟨_, h2, _, h4⟩ | ⟨_, h2, h3, rl, h4, h5, h6⟩
    · exact .inl ⟨by omega, h4⟩
    · have hr : (layAll t)[r.toNat]?.map Prod.fst = some rl := by rw [← List.getElem?_map]; exact h4
      cases hx : (layAll t)[r.toNat]? with
      | none => rw [hx] at hr; cases hr
      | some x =>
        rw [hx] at hr
        simp only [Option.map_some, Option.some.injEq] at hr
        have hlt := (List.getElem?_eq_some_iff.1 hx).1
        have hne := layAll_ne x (List.mem_of_getElem? hx)
        have hl := WTs.length h6
        refine .inr ⟨h3, by unfold layF; rw [List.length_map]; omega, h2, fun _ e => ?_, boks_wt ks rl.right h6⟩
        rw [e] at hl
        rw [hr] at hne
        exact hne (List.eq_nil_of_length_eq_zero (by simpa using hl))
theorem boks_wt {t : Tbl} : ∀ (ks : List Tree) (ys : List Sym), WTs (layG t) ys ks → BOks (layF t) ks
  | [], _, _ => by simp only [BOks]
  | k :: ks, y :: ys, h => by
    simp only [WTs] at h
    simp only [BOks]
    exact ⟨bok_wt k y h.1, boks_wt ks ys h.2⟩
  | _ :: _, [], h => by simp [WTs] at h
end
end Go.Proofs.Ytkhmghobnocakaa
