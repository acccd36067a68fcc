/- parllaw2.FirstSays returns true for every grammar and every list of symbols of at most the size that the statement allows, and leaves them as they were. -/
import Derived.Test.YtjmpheidcofhnaaDoorRows
import Derived.Test.YtjmpheidcofhnaaDoorLibD
import Derived.Test.YtjmpheidcofhnaaDoorCFirstSays
import Derived.Test.YtjmpheidcofhnaaDoorTie
import Derived.Test.YtjmpheidcofhnaaDoorCards
import Derived.WideLaws
set_option linter.all false
namespace Go.Proofs.YtjmpheidcofhnaaDoor.firstSays
open Go Go.Proofs.YtjmpheidcofhnaaDoor.GH Go.ChangeShapes Go.WideShapes Go.ChangeAt Go.RowKit
set_option linter.unusedVariables false
open Go.Proofs.YtjmpheidcofhnaaDoor

def bk : Bk where
  b := Rows.uptoBulk
  bs := Rows.uptoBulkAll
  nil := by simp [Rows.uptoBulkAll]
  cons := by simp [Rows.uptoBulkAll]
  lit l := by cases l <;> simp [Rows.uptoBulk]
  str := by simp [Rows.uptoBulk]
  nl := by simp [Rows.uptoBulk]
  sl := by simp [Rows.uptoBulk]
  ag := by simp [Rows.uptoBulk]

theorem own : ownKnob Tryd.prog.godebug = none := by kernel_rfl
theorem laid : laidOutB Tryd.prog = true := by kernel_rfl
theorem dt31 : Dec Tryd.prog bk 31 dSym := Dec.sym Tryd.underlying31 (by kernel_rfl) (by kernel_rfl) (by kernel_rfl) (by kernel_rfl) (by kernel_rfl)
theorem dt36 : Dec Tryd.prog bk 36 dRule := Dec.rule Tryd.underlying36 (by kernel_rfl) (by kernel_rfl) dt31 (by kernel_rfl) (by kernel_rfl) (by kernel_rfl) (by kernel_rfl)
theorem dt24 : Dec Tryd.prog bk 24 dGram := Dec.gram Tryd.underlying24 (by kernel_rfl) (by kernel_rfl) (by kernel_rfl) (by kernel_rfl) dt36 (by kernel_rfl) (by kernel_rfl) (by kernel_rfl) (by kernel_rfl) (by kernel_rfl) (by kernel_rfl) (by kernel_rfl) (by kernel_rfl) (by kernel_rfl) (by kernel_rfl)
theorem dt4 : Dec Tryd.prog bk 4 dB := .bool Tryd.underlying4

set_option maxRecDepth 100000 in
theorem contract (H : Type) (enc : TypeId × Value → H) (W : World) (base : Nat) (args : Array Value) (ds gs : List (DataW H)) (before : List MemPlace)
    (hval : ∀ (j : Nat) t v, Tryd.f9.params[j]? = some t → args[j]? = some v → Value.okWide Tryd.prog W .any base t v)
    (hW : DataW.Whole enc Tryd.prog Tryd.f9.params.toList Rows.firstSaysSpec.vars false W args.toList ds gs before) (hk : Rows.uptoSmall H (ds ++ gs) = true) :
    Calls Tryd.prog 9 args W fun e W' => ∃ v, e = .returned v ∧ Rows.firstSaysSpec.post enc Tryd.prog Tryd.f9 false true false false W args v W' := by
  obtain ⟨hin, rfl⟩ := allIn_of hval hW rfl
  rw [Tryd.params9] at hin
  obtain ⟨v0, l0, d0, m0, hl0, rfl, e0, ⟨p0, h0⟩, v1, l1, d1, m1, rfl, rfl, e1, ⟨p1, h1⟩, rfl, rfl⟩ := hin
  obtain rfl : args = #[v0, v1] := by cases args; simp_all
  have hb : Rows.uptoBulkAll [d0, d1] ≤ 1048576 := of_decide_eq_true hk
  have hb' : bk.b d0 + (bk.b d1 + (0)) ≤ 1048576 := by simpa [Rows.uptoBulkAll, bk] using hb
  obtain ⟨c0, x0, rfl, k0, o0, w0⟩ := arg_struct (M := bk) Tryd.underlying24 dt24 e0 h0
  obtain ⟨s0, rfl, g0⟩ := k0
  obtain ⟨s1, x1, rfl, g1, o1, w1⟩ := arg_slice (M := bk) Tryd.underlying34 dt31 (by kernel_rfl) e1 h1
  refine (calls_true (FirstSays_spec g0 g1 (by have := w1; have := wt_len dSym (fun _ => (by decide : 1 ≤ 3)) x1; omega))).mono fun e W' ⟨he, hg⟩ => ⟨_, he, ?_⟩
  exact post_true hW laid (of_decide_eq_true (by kernel_rfl)) rfl rfl Tryd.underlying4 rfl hg

abbrev laid3 : List (String × DataW Unit) := Rows.firstSaysUptoRow.laid
theorem door_met (os : Os) (args : Array Value) : laidMetH Tryd.prog laid3 ((World.doorLaid Tryd.prog 400 os).forCall (fun _ _ => 0) ⟨#[], args, []⟩).memory :=
  laidMetH_of_parts3 (fuel := 8) (laidMet_of_run' 8 (by kernel_rfl) (by kernel_rfl)) (by kernel_rfl) (by kernel_rfl)

set_option maxRecDepth 100000 in
theorem lifted (os : Os) (started : os.Started) (H : Type) (enc : TypeId × Value → H) (F : Stop.Interp) :
    ReturnsInHanded {} Tryd.checked os 9 .any (fun w args => ((Rows.OpenSpec.upto Rows.firstSaysSpec).pre enc Tryd.prog Tryd.f9 Rows.firstSaysUptoRow.domain false w args ∧ laidMetH Tryd.prog laid3 w) ∧ sizedMet enc Tryd.prog Tryd.f9 (Rows.OpenSpec.upto Rows.firstSaysSpec) false w args) (((Rows.OpenSpec.upto Rows.firstSaysSpec).at F).post enc Tryd.prog Tryd.f9 false true false false) := by
  refine returnsInHanded_of_cond_and (C := Tryd.checked) (s := Rows.OpenSpec.upto Rows.firstSaysSpec) (k := Rows.uptoSmall) (X := fun w _ => laidMetH Tryd.prog laid3 w) rfl (fun _ _ _ hh h => h.of_heap hh) own started (by kernel_rfl) Tryd.func9
    (witness_cond_shaped (enc := enc) (C := Tryd.checked) (os := os) (s := Rows.OpenSpec.upto Rows.firstSaysSpec) (k := Rows.uptoSmall) (X := fun w _ => laidMetH Tryd.prog laid3 w) rfl false (World.doorLaid Tryd.prog 400 os) #[.agg #[.int .i64 0, .int .i64 0, .int .i64 0, .slice none 0 0], .slice none 0 0] 8 rfl (World.shaped_of_RefB (by kernel_rfl) (by kernel_rfl)) (by kernel_rfl)
      (x := ([.agg [.lit (.int .i64 0), .lit (.int .i64 0), .lit (.int .i64 0), .nil], .nil], [], [])) (by kernel_rfl) rfl (by kernel_rfl) (by kernel_rfl) (door_met os _)) ?_
  intro W base args ds gs before hval hW hk
  exact contract H enc W base args ds gs before hval hW hk

theorem over : Rows.firstSaysUptoRow.holds Tryd.pinned (Rows.OpenSpec.upto Rows.firstSaysSpec) :=
  OpenClaim.holds_of_cond 9 Tryd.f9 rfl rfl rfl rfl rfl rfl rfl ⟨rfl, rfl, rfl, rfl, rfl⟩ rfl rfl rfl rfl rfl (by kernel_rfl) Tryd.func9 (by kernel_rfl)
    (of_decide_eq_true (by kernel_rfl)) (by unfold Func.isWrapper; first | (rw [if_pos (by decide +kernel)]; kernel_rfl) | (rw [if_neg (by decide +kernel)]; exact ⟨rfl, rfl⟩))
    (fun os started H enc _ F => lifted os started H enc F)

theorem proved : Rows.FirstSaysUptoCardSaid :=
  Claim7.holds_tied_plain_at .later [] [.data, .data, .data] true (true, "7baa20478d69f4c4cc2623add564fbe427a5c29adf891411423c58d0e0c12ce5") false
    over (fun _ h => by cases h) (by kernel_rfl) (fun _ h => by cases h) firstSaysUpto_row_tie rfl ⟨rfl, rfl⟩ (by kernel_rfl) rfl
    (fun f fn hf hfn => by
      obtain rfl : f = 9 := Option.some.inj ((show Tryd.prog.funcNamed "parlance/parllaw2.FirstSays" = some 9 by kernel_rfl).symm.trans hf) |>.symm
      obtain rfl : fn = Tryd.f9 := (Option.some.inj (Tryd.func9.symm.trans hfn)).symm
      exact ⟨by kernel_rfl, fun j t ht => by
        rw [Tryd.params9] at ht
        have hm : t ∈ [24, 34] := by simpa using Array.mem_of_getElem? ht
        have hall : ([24, 34].all fun u => !Tryd.prog.wantsStandIn u) = true := by kernel_rfl
        exact (show Tryd.prog.wantsStandIn t = false by simpa using List.all_eq_true.1 hall t hm)⟩)
    (by kernel_rfl)
end Go.Proofs.YtjmpheidcofhnaaDoor.firstSays
#print axioms Go.Proofs.YtjmpheidcofhnaaDoor.firstSays.proved
