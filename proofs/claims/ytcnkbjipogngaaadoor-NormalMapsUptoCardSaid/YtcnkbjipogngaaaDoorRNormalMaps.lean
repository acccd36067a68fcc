/- Down and Up return what chapter 24 specifies, for any trees -/
import Derived.Test.YtcnkbjipogngaaaDoorRows
import Derived.Test.YtcnkbjipogngaaaDoorLibD
import Derived.Test.YtcnkbjipogngaaaDoorCAll29
import Derived.Test.YtcnkbjipogngaaaDoorTie
import Derived.Test.YtcnkbjipogngaaaDoorCards
import Derived.WideLaws
set_option linter.all false
namespace Go.Proofs.YtcnkbjipogngaaaDoor.normalMaps
open Go Go.Proofs.YtcnkbjipogngaaaDoor.GH Go.ChangeShapes Go.WideShapes Go.ChangeAt Go.RowKit
set_option linter.unusedVariables false
open Go.Proofs.YtcnkbjipogngaaaDoor

def bk : Bk where
  b := Rows.uptoBulk
  bs := Rows.uptoBulkAll
  nil := by simp [Rows.uptoBulkAll]
  cons := by simp [Rows.uptoBulkAll]
  lit l := by cases l <;> simp [Rows.uptoBulk]
  str := by simp [Rows.uptoBulk]
  nl := by simp [Rows.uptoBulk]
  sl := by simp [Rows.uptoBulk]
  ag := by simp [Rows.uptoBulk]

theorem own : ownKnob Tryd.prog.godebug = none := by kernel_rfl
theorem laid : laidOutB Tryd.prog = true := by kernel_rfl
theorem dt111 : Dec Tryd.prog bk 111 dSym := Dec.sym Tryd.underlying111 (by kernel_rfl) (by kernel_rfl) (by kernel_rfl) (by kernel_rfl) (by kernel_rfl)
theorem dt114 : Dec Tryd.prog bk 114 dRule := Dec.rule Tryd.underlying114 (by kernel_rfl) (by kernel_rfl) dt111 (by kernel_rfl) (by kernel_rfl) (by kernel_rfl) (by kernel_rfl)
theorem dt24 : Dec Tryd.prog bk 24 dGram := Dec.gram Tryd.underlying24 (by kernel_rfl) (by kernel_rfl) (by kernel_rfl) (by kernel_rfl) dt114 (by kernel_rfl) (by kernel_rfl) (by kernel_rfl) (by kernel_rfl) (by kernel_rfl) (by kernel_rfl) (by kernel_rfl) (by kernel_rfl) (by kernel_rfl) (by kernel_rfl)
theorem dt53 : Dec Tryd.prog bk 53 dTree := Dec.tree Tryd.underlying53 Tryd.underlying3 Tryd.underlying3 Tryd.underlying51 (by kernel_rfl) (by kernel_rfl) (by kernel_rfl) (by kernel_rfl) (by kernel_rfl) (by kernel_rfl) (by kernel_rfl)
theorem dt56 : Dec Tryd.prog bk 56 dTree := Dec.tree Tryd.underlying56 Tryd.underlying3 Tryd.underlying3 Tryd.underlying54 (by kernel_rfl) (by kernel_rfl) (by kernel_rfl) (by kernel_rfl) (by kernel_rfl) (by kernel_rfl) (by kernel_rfl)
theorem dt4 : Dec Tryd.prog bk 4 dB := .bool Tryd.underlying4

set_option maxRecDepth 100000 in
theorem contract (H : Type) (enc : TypeId × Value → H) (W : World) (base : Nat) (args : Array Value) (ds gs : List (DataW H)) (before : List MemPlace)
    (hval : ∀ (j : Nat) t v, Tryd.f4.params[j]? = some t → args[j]? = some v → Value.okWide Tryd.prog W .any base t v)
    (hW : DataW.Whole enc Tryd.prog Tryd.f4.params.toList Rows.normalMapsSpec.vars false W args.toList ds gs before) (hk : Rows.uptoSmall H (ds ++ gs) = true) :
    Calls Tryd.prog 4 args W fun e W' => ∃ v, e = .returned v ∧ Rows.normalMapsSpec.post enc Tryd.prog Tryd.f4 false true false false W args v W' := by
  obtain ⟨hin, rfl⟩ := allIn_of hval hW rfl
  rw [Tryd.params4] at hin
  obtain ⟨v0, l0, d0, m0, hl0, rfl, e0, ⟨p0, h0⟩, v1, l1, d1, m1, rfl, rfl, e1, ⟨p1, h1⟩, v2, l2, d2, m2, rfl, rfl, e2, ⟨p2, h2⟩, rfl, rfl⟩ := hin
  obtain rfl : args = #[v0, v1, v2] := by cases args; simp_all
  have hb : Rows.uptoBulkAll [d0, d1, d2] ≤ 1048576 := of_decide_eq_true hk
  have hb' : bk.b d0 + (bk.b d1 + (bk.b d2 + (0))) ≤ 1048576 := by simpa [Rows.uptoBulkAll, bk] using hb
  obtain ⟨c0, x0, rfl, k0, o0, w0⟩ := arg_struct (M := bk) Tryd.underlying24 dt24 e0 h0
  obtain ⟨s0, rfl, g0⟩ := k0
  obtain ⟨c1, x1, rfl, k1, o1, w1⟩ := arg_struct (M := bk) Tryd.underlying53 dt53 e1 h1
  obtain ⟨s1, rfl, g1⟩ := TK.open k1
  obtain ⟨c2, x2, rfl, k2, o2, w2⟩ := arg_struct (M := bk) Tryd.underlying56 dt56 e2 h2
  obtain ⟨s2, rfl, g2⟩ := TK.open k2
  refine (calls_true (NormS.NormalMaps_spec g0 g1 g2 (Nat.le_trans (show x2.nodes <= bk.b d2 from w2) (by omega)))).mono fun e W' ⟨he, hg⟩ => ⟨_, he, ?_⟩
  exact post_true hW laid (of_decide_eq_true (by kernel_rfl)) rfl rfl Tryd.underlying4 rfl hg

abbrev laid3 : List (String × DataW Unit) := Rows.normalMapsUptoRow.laid
theorem door_met (os : Os) (args : Array Value) : laidMetH Tryd.prog laid3 ((World.doorLaid Tryd.prog 400 os).forCall (fun _ _ => 0) ⟨#[], args, []⟩).memory :=
  laidMetH_of_parts3 (fuel := 8) (laidMet_of_run' 8 (by kernel_rfl) (by kernel_rfl)) (by kernel_rfl) (by kernel_rfl)

set_option maxRecDepth 100000 in
theorem lifted (os : Os) (started : os.Started) (H : Type) (enc : TypeId × Value → H) (F : Stop.Interp) :
    ReturnsInHanded {} Tryd.checked os 4 .any (fun w args => ((Rows.OpenSpec.upto Rows.normalMapsSpec).pre enc Tryd.prog Tryd.f4 Rows.normalMapsUptoRow.domain false w args ∧ laidMetH Tryd.prog laid3 w) ∧ sizedMet enc Tryd.prog Tryd.f4 (Rows.OpenSpec.upto Rows.normalMapsSpec) false w args) (((Rows.OpenSpec.upto Rows.normalMapsSpec).at F).post enc Tryd.prog Tryd.f4 false true false false) := by
  refine returnsInHanded_of_cond_and (C := Tryd.checked) (s := Rows.OpenSpec.upto Rows.normalMapsSpec) (k := Rows.uptoSmall) (X := fun w _ => laidMetH Tryd.prog laid3 w) rfl (fun _ _ _ hh h => h.of_heap hh) own started (by kernel_rfl) Tryd.func4
    (witness_cond_shaped (enc := enc) (C := Tryd.checked) (os := os) (s := Rows.OpenSpec.upto Rows.normalMapsSpec) (k := Rows.uptoSmall) (X := fun w _ => laidMetH Tryd.prog laid3 w) rfl false (World.doorLaid Tryd.prog 400 os) #[.agg #[.int .i64 0, .int .i64 0, .int .i64 0, .slice none 0 0], .agg #[.int .i64 0, .int .i64 0, .slice none 0 0], .agg #[.int .i64 0, .int .i64 0, .slice none 0 0]] 8 rfl (World.shaped_of_RefB (by kernel_rfl) (by kernel_rfl)) (by kernel_rfl)
      (x := ([.agg [.lit (.int .i64 0), .lit (.int .i64 0), .lit (.int .i64 0), .nil], .agg [.lit (.int .i64 0), .lit (.int .i64 0), .nil], .agg [.lit (.int .i64 0), .lit (.int .i64 0), .nil]], [], [])) (by kernel_rfl) rfl (by kernel_rfl) (by kernel_rfl) (door_met os _)) ?_
  intro W base args ds gs before hval hW hk
  exact contract H enc W base args ds gs before hval hW hk

theorem over : Rows.normalMapsUptoRow.holds Tryd.pinned (Rows.OpenSpec.upto Rows.normalMapsSpec) :=
  OpenClaim.holds_of_cond 4 Tryd.f4 rfl rfl rfl rfl rfl rfl rfl ⟨rfl, rfl, rfl, rfl, rfl⟩ rfl rfl rfl rfl rfl (by kernel_rfl) Tryd.func4 (by kernel_rfl)
    (of_decide_eq_true (by kernel_rfl)) (by unfold Func.isWrapper; first | (rw [if_pos (by decide +kernel)]; kernel_rfl) | (rw [if_neg (by decide +kernel)]; exact ⟨rfl, rfl⟩))
    (fun os started H enc _ F => lifted os started H enc F)

theorem proved : Rows.NormalMapsUptoCardSaid :=
  Claim7.holds_tied_plain_at .later [] [.data, .data, .data] true (true, "ef2d6c7390935ba84c274240116ec2d5e54be8fac8bc4f9f7627aa2dac856df5") false
    over (fun _ h => by cases h) (by kernel_rfl) (fun _ h => by cases h) normalMapsUpto_row_tie rfl ⟨rfl, rfl⟩ (by kernel_rfl) rfl
    (fun f fn hf hfn => by
      obtain rfl : f = 4 := Option.some.inj ((show Tryd.prog.funcNamed "parlance/parllaw2.NormalMaps" = some 4 by kernel_rfl).symm.trans hf) |>.symm
      obtain rfl : fn = Tryd.f4 := (Option.some.inj (Tryd.func4.symm.trans hfn)).symm
      exact ⟨by kernel_rfl, fun j t ht => by
        rw [Tryd.params4] at ht
        have hm : t ∈ [24, 53, 56] := by simpa using Array.mem_of_getElem? ht
        have hall : ([24, 53, 56].all fun u => !Tryd.prog.wantsStandIn u) = true := by kernel_rfl
        exact (show Tryd.prog.wantsStandIn t = false by simpa using List.all_eq_true.1 hall t hm)⟩)
    (by kernel_rfl)
end Go.Proofs.YtcnkbjipogngaaaDoor.normalMaps
#print axioms Go.Proofs.YtcnkbjipogngaaaDoor.normalMaps.proved
