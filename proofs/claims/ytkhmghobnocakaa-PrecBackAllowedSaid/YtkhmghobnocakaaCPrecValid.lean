/- The layered grammar of a valid table passes Check. -/
import Derived.Test.YtkhmghobnocakaaCPrec2
import Derived.Test.YtkhmghobnocakaaCPrecRef
set_option linter.all false
namespace Go.Proofs.Ytkhmghobnocakaa
open Go Go.Proofs.Ytkhmghobnocakaa.GH

/-- The first terminal of a right side; a number below 0 where it has none. -/
def rkey (r : Rule) : Int := match r.right.find? (·.term) with | some s => s.n | none => -1 - r.left
def lkeys : Int → List Lvl → List Int
  | _, [] => []
  | i, l :: ls => l.ops ++ (-1 - i) :: lkeys (i + 1) ls

theorem rkey_lay (i k o : Int) : rkey (layRule i k o) = o := by
  unfold layRule
  (repeat' split) <;> rfl

theorem layRules_keys : ∀ (ls : List Lvl) (i k : Nat), (layRules i k ls).map (fun x => rkey x.1) = lkeys i ls
  | [], _, _ => rfl
  | l :: ls, i, k => by
    simp only [layRules, lkeys, List.map_append, List.map_cons, List.map_map]
    rw [layRules_keys ls (i + 1)]
    have e1 : (l.ops.zipIdx k).map ((fun x : Rule × Int => rkey x.1) ∘ fun x => (layRule i l.kind x.1, (x.2 : Int))) = l.ops := by
      have : ((fun x : Rule × Int => rkey x.1) ∘ fun x : Int × Nat => (layRule i l.kind x.1, (x.2 : Int))) = Prod.fst := by
        funext x; exact rkey_lay i l.kind x.1
      rw [this, List.zipIdx_map_fst]
    rw [e1]
    rfl

theorem mem_lkeys : ∀ {ls : List Lvl} {i x : Int}, x ∈ lkeys i ls → x ∈ lvlOps ls ∨ x ≤ -1 - i
  | [], _, _, h => absurd h List.not_mem_nil
  | l :: ls, i, x, h => by
    simp only [lkeys, List.mem_append, List.mem_cons] at h
    rcases h with h | h | h
    · exact .inl (by simp [lvlOps, h])
    · exact .inr (by omega)
    · rcases mem_lkeys h with h | h
      · refine .inl ?_
        have : lvlOps (l :: ls) = l.ops ++ lvlOps ls := by simp [lvlOps]
        rw [this]; exact List.mem_append_right _ h
      · exact .inr (by omega)

theorem lkeys_nodup : ∀ {ls : List Lvl} {i : Int}, 0 ≤ i → (∀ o ∈ lvlOps ls, 0 ≤ o) → (lvlOps ls).Nodup → (lkeys i ls).Nodup
  | [], _, _, _, _ => List.nodup_nil
  | l :: ls, i, hi, h0, hn => by
    have e : lvlOps (l :: ls) = l.ops ++ lvlOps ls := by simp [lvlOps]
    rw [e] at h0 hn
    obtain ⟨n1, n2, n3⟩ := List.nodup_append.1 hn
    simp only [lkeys]
    refine List.nodup_append.2 ⟨n1, List.nodup_cons.2 ⟨fun h => ?_, lkeys_nodup (by omega) (fun o ho => h0 o (List.mem_append_right _ ho)) n2⟩, fun a ha b hb => ?_⟩
    · rcases mem_lkeys h with h | h
      · have := h0 _ (List.mem_append_right _ h); omega
      · omega
    · rcases List.mem_cons.1 hb with rfl | hb
      · have := h0 _ (List.mem_append_left _ ha); omega
      · rcases mem_lkeys hb with h | h
        · exact n3 a ha b h
        · have := h0 _ (List.mem_append_left _ ha); omega

theorem mem_layRules : ∀ {ls : List Lvl} {i k : Nat} {x : Rule × Int}, x ∈ layRules i k ls → ∃ j : Nat, i ≤ j ∧ j < i + ls.length ∧ (x.1 = ⟨(j : Int), [non ((j : Int) + 1)]⟩ ∨ ∃ kd, ∃ o ∈ lvlOps ls, x.1 = layRule j kd o)
  | [], _, _, _, h => absurd h List.not_mem_nil
  | l :: ls, i, k, x, h => by
    have e : lvlOps (l :: ls) = l.ops ++ lvlOps ls := by simp [lvlOps]
    simp only [layRules, List.mem_append, List.mem_map, List.mem_cons] at h
    rcases h with ⟨⟨o, m⟩, hy, rfl⟩ | rfl | h
    · refine ⟨i, Nat.le_refl _, by simp, .inr ⟨l.kind, o, ?_, rfl⟩⟩
      rw [e]
      exact List.mem_append_left _ (List.fst_mem_of_mem_zipIdx hy)
    · exact ⟨i, Nat.le_refl _, by simp, .inl rfl⟩
    · obtain ⟨j, h1, h2, h3⟩ := mem_layRules h
      refine ⟨j, by omega, by simp only [List.length_cons]; omega, h3.imp id ?_⟩
      rintro ⟨kd, o, ho, h⟩
      exact ⟨kd, o, by rw [e]; exact List.mem_append_right _ ho, h⟩

theorem layRules_length : ∀ {ls : List Lvl} {i k : Nat}, (layRules i k ls).length = (lvlOps ls).length + ls.length
  | [], _, _ => rfl
  | l :: ls, i, k => by
    have e : lvlOps (l :: ls) = l.ops ++ lvlOps ls := by simp [lvlOps]
    simp only [layRules, List.length_append, List.length_map, List.length_zipIdx, List.length_cons]
    rw [layRules_length, e, List.length_append]; omega

theorem layG_valid {t : Tbl} (h : PValid t) : Valid (layG t) := by
  have hmany := h.many
  have hfew := h.few
  have hopn := PValid.opn h
  have hat := h.atom
  have htm := h.terms
  have hrng := h.rng
  have hpar : t.opn ≥ 0 → parens t = [t.opn, t.cls] := fun ho => by unfold parens; rw [if_pos (by omega)]
  have htl : (layTail t).length ≤ 2 := by unfold layTail; split <;> simp
  refine ⟨htm, ⟨by simp only [layG]; omega, by simp only [layG]; omega⟩, ⟨by simp [layG], by simp only [layG]; omega⟩, ?_, ?_, ?_⟩
  · simp only [layG, layAll, List.length_map, List.length_append, layRules_length]; omega
  · intro r hr
    simp only [layG, layAll, List.map_append, List.mem_append, List.mem_map] at hr
    simp only [layG]
    rcases hr with ⟨x, hx, rfl⟩ | ⟨x, hx, rfl⟩
    · obtain ⟨j, h1, h2, h3⟩ := mem_layRules hx
      rcases h3 with e | ⟨kd, o, ho, e⟩
      · rw [e]
        refine ⟨⟨⟨by simp only; omega, by simp only; omega⟩, ?_⟩, by simp⟩
        intro s hs
        simp only [List.mem_singleton] at hs
        subst hs
        exact ⟨by simp only [non]; omega, by simp [non], fun _ => by simp only [non]; omega⟩
      · have ho := hrng o (List.mem_append_right _ ho)
        rw [e]
        unfold layRule
        have a1 : SymOk t.terms (t.levels.length + 1) (sym o) := ⟨ho.1, fun _ => ho.2, by simp [sym]⟩
        have a2 : SymOk t.terms (t.levels.length + 1) (non j) := ⟨by simp only [non]; omega, by simp [non], fun _ => by simp only [non]; omega⟩
        have a3 : SymOk t.terms (t.levels.length + 1) (non ((j : Int) + 1)) := ⟨by simp only [non]; omega, by simp [non], fun _ => by simp only [non]; omega⟩
        (repeat' split) <;> refine ⟨⟨⟨by simp only; omega, by simp only; omega⟩, ?_⟩, by simp⟩ <;> intro s hs <;> simp only [List.mem_cons, List.not_mem_nil, or_false] at hs
        · rcases hs with rfl | rfl <;> assumption
        · rcases hs with rfl | rfl | rfl <;> assumption
        · rcases hs with rfl | rfl | rfl <;> assumption
        · rcases hs with rfl | rfl | rfl <;> assumption
    · have a1 : SymOk t.terms (t.levels.length + 1) (sym t.atom) := ⟨hat.1, fun _ => hat.2, by simp [sym]⟩
      have a2 : SymOk t.terms (t.levels.length + 1) (non 0) := ⟨by simp [non], by simp [non], fun _ => by simp only [non]; omega⟩
      simp only [layTail, List.mem_cons] at hx
      rcases hx with rfl | hx
      · refine ⟨⟨⟨by simp only; omega, by simp only; omega⟩, ?_⟩, by simp⟩
        intro s hs
        simp only [List.mem_singleton] at hs
        subst hs; exact a1
      · split at hx
        · rename_i ho
          have p1 := hrng t.opn (by rw [hpar ho]; simp)
          have p2 := hrng t.cls (by rw [hpar ho]; simp)
          rw [List.mem_singleton] at hx
          subst hx
          refine ⟨⟨⟨by simp only; omega, by simp only; omega⟩, ?_⟩, by simp⟩
          intro s hs
          simp only [List.mem_cons, List.not_mem_nil, or_false] at hs
          rcases hs with rfl | rfl | rfl
          · exact ⟨p1.1, fun _ => p1.2, by simp [sym]⟩
          · exact a2
          · exact ⟨p2.1, fun _ => p2.2, by simp [sym]⟩
        · exact absurd hx List.not_mem_nil
  · have hn := h.nodup
    rw [List.nodup_cons] at hn
    obtain ⟨na, nn⟩ := hn
    obtain ⟨n1, n2, n3⟩ := List.nodup_append.1 nn
    have key : ((layG t).rules.map rkey).Nodup := by
      simp only [layG, layAll, List.map_map, List.map_append]
      have : ((layRules 0 (flatHead t).length t.levels).map (rkey ∘ Prod.fst)) = lkeys 0 t.levels := layRules_keys t.levels 0 (flatHead t).length
      rw [this]
      have e2 : (layTail t).map (rkey ∘ Prod.fst) = t.atom :: (if t.opn ≥ 0 then [t.opn] else []) := by
        unfold layTail; split <;> rfl
      rw [e2]
      have h0 : ∀ o ∈ lvlOps t.levels, 0 ≤ o := fun o ho => (hrng o (List.mem_append_right _ ho)).1
      refine List.nodup_append.2 ⟨lkeys_nodup (by omega) h0 n2, ?_, ?_⟩
      · split
        · rename_i ho
          refine List.nodup_cons.2 ⟨fun hm => na ?_, by simp⟩
          rw [List.mem_singleton] at hm
          rw [hpar ho, hm]; simp
        · simp
      · intro a ha b hb
        rcases List.mem_cons.1 hb with rfl | hb
        · rcases mem_lkeys ha with hm | hm
          · rintro rfl; exact na (List.mem_append_right _ hm)
          · omega
        · split at hb
          · rename_i ho
            rw [List.mem_singleton] at hb
            subst hb
            rcases mem_lkeys ha with hm | hm
            · rintro rfl; exact n3 _ (by rw [hpar ho]; simp) _ hm rfl
            · omega
          · exact absurd hb List.not_mem_nil
    exact List.Pairwise.of_map rkey (fun a b hab e => hab (by rw [e])) key

theorem layG_chk {t : Tbl} (h : PValid t) : chk (layG t) = 0 := chk_zero.2 (layG_valid h)
theorem layOf_ok {t : Tbl} (h : PValid t) : layOf t = (layG t, layF t, 0) := by
  unfold layOf
  rw [if_neg (by rw [pchk_zero.2 h]; simp), if_neg (by rw [layG_chk h]; simp)]
theorem layOf_bad {t : Tbl} (h : pchk t ≠ 0) : layOf t = (⟨0, 0, 0, []⟩, [], pchk t) := by
  unfold layOf
  rw [if_pos h]
end Go.Proofs.Ytkhmghobnocakaa
