/- parllaw2.GramChecks returns true for every two grammars, every word and every two numbers, where what it reads is of bulk at most 1048576, and leaves them as they were. -/
import Derived.Test.YtpgpognmdejdaaaDoorRows
import Derived.Test.YtpgpognmdejdaaaDoorLibD
import Derived.Test.YtpgpognmdejdaaaDoorCGChecks
import Derived.Test.YtpgpognmdejdaaaDoorTie
import Derived.Test.YtpgpognmdejdaaaDoorCards
import Derived.WideLaws
set_option linter.all false
namespace Go.Proofs.YtpgpognmdejdaaaDoor.gramChecks
open Go Go.Proofs.YtpgpognmdejdaaaDoor.GH Go.ChangeShapes Go.WideShapes Go.ChangeAt Go.RowKit
set_option linter.unusedVariables false
open Go.Proofs.YtpgpognmdejdaaaDoor

def bk : Bk where
  b := Rows.uptoBulk
  bs := Rows.uptoBulkAll
  nil := by simp [Rows.uptoBulkAll]
  cons := by simp [Rows.uptoBulkAll]
  lit l := by cases l <;> simp [Rows.uptoBulk]
  str := by simp [Rows.uptoBulk]
  nl := by simp [Rows.uptoBulk]
  sl := by simp [Rows.uptoBulk]
  ag := by simp [Rows.uptoBulk]

theorem own : ownKnob Tryd.prog.godebug = none := by kernel_rfl
theorem laid : laidOutB Tryd.prog = true := by kernel_rfl
theorem dt54 : Dec Tryd.prog bk 54 dSym := Dec.sym Tryd.underlying54 (by kernel_rfl) (by kernel_rfl) (by kernel_rfl) (by kernel_rfl) (by kernel_rfl)
theorem dt51 : Dec Tryd.prog bk 51 dRule := Dec.rule Tryd.underlying51 (by kernel_rfl) (by kernel_rfl) dt54 (by kernel_rfl) (by kernel_rfl) (by kernel_rfl) (by kernel_rfl)
theorem dt35 : Dec Tryd.prog bk 35 dGram := Dec.gram Tryd.underlying35 (by kernel_rfl) (by kernel_rfl) (by kernel_rfl) (by kernel_rfl) dt51 (by kernel_rfl) (by kernel_rfl) (by kernel_rfl) (by kernel_rfl) (by kernel_rfl) (by kernel_rfl) (by kernel_rfl) (by kernel_rfl) (by kernel_rfl) (by kernel_rfl)
theorem dt3 : Dec Tryd.prog bk 3 dI := .int Tryd.underlying3
theorem dt4 : Dec Tryd.prog bk 4 dB := .bool Tryd.underlying4

set_option maxRecDepth 100000 in
theorem contract (H : Type) (enc : TypeId × Value → H) (W : World) (base : Nat) (args : Array Value) (ds gs : List (DataW H)) (before : List MemPlace)
    (hval : ∀ (j : Nat) t v, Tryd.f4.params[j]? = some t → args[j]? = some v → Value.okWide Tryd.prog W .any base t v)
    (hW : DataW.Whole enc Tryd.prog Tryd.f4.params.toList Rows.gramChecksSpec.vars false W args.toList ds gs before) (hk : Rows.uptoSmall H (ds ++ gs) = true) :
    Calls Tryd.prog 4 args W fun e W' => ∃ v, e = .returned v ∧ Rows.gramChecksSpec.post enc Tryd.prog Tryd.f4 false true false false W args v W' := by
  obtain ⟨hin, rfl⟩ := allIn_of hval hW rfl
  rw [Tryd.params4] at hin
  obtain ⟨v0, l0, d0, m0, hl0, rfl, e0, ⟨p0, h0⟩, v1, l1, d1, m1, rfl, rfl, e1, ⟨p1, h1⟩, v2, l2, d2, m2, rfl, rfl, e2, ⟨p2, h2⟩, v3, l3, d3, m3, rfl, rfl, e3, ⟨p3, h3⟩, v4, l4, d4, m4, rfl, rfl, e4, ⟨p4, h4⟩, rfl, rfl⟩ := hin
  obtain rfl : args = #[v0, v1, v2, v3, v4] := by cases args; simp_all
  have hb : Rows.uptoBulkAll [d0, d1, d2, d3, d4] ≤ 1048576 := of_decide_eq_true hk
  have hb' : bk.b d0 + (bk.b d1 + (bk.b d2 + (bk.b d3 + (bk.b d4 + (0))))) ≤ 1048576 := by simpa [Rows.uptoBulkAll, bk] using hb
  obtain ⟨c0, x0, rfl, k0, o0, w0⟩ := arg_struct (M := bk) Tryd.underlying35 dt35 e0 h0
  obtain ⟨s0, rfl, g0⟩ := k0
  obtain ⟨c1, x1, rfl, k1, o1, w1⟩ := arg_struct (M := bk) Tryd.underlying35 dt35 e1 h1
  obtain ⟨s1, rfl, g1⟩ := k1
  obtain ⟨s2, x2, rfl, g2, o2, w2⟩ := arg_slice (M := bk) Tryd.underlying36 dt3 (by kernel_rfl) e2 h2
  obtain ⟨x3, rfl, g3, w3⟩ := arg_int (M := bk) Tryd.underlying3 e3 h3
  obtain ⟨x4, rfl, g4, w4⟩ := arg_int (M := bk) Tryd.underlying3 e4 h4
  refine (calls_true (GramChecks_spec (h := x1) g0 g1 g2 (Nat.le_trans (show dGram.wt x0 ≤ bk.b d0 from w0) (by omega)) (by have := w2; have := wt_len dI (fun _ => Nat.le_refl 1) x2; omega))).mono fun e W' ⟨he, hg⟩ => ⟨_, he, ?_⟩
  exact post_true hW laid (of_decide_eq_true (by kernel_rfl)) rfl rfl Tryd.underlying4 rfl hg

abbrev laid3 : List (String × DataW Unit) := Rows.gramChecksUptoRow.laid
theorem door_met (os : Os) (args : Array Value) : laidMetH Tryd.prog laid3 ((World.doorLaid Tryd.prog 400 os).forCall (fun _ _ => 0) ⟨#[], args, []⟩).memory :=
  laidMetH_of_parts3 (fuel := 8) (laidMet_of_run' 8 (by kernel_rfl) (by kernel_rfl)) (by kernel_rfl) (by kernel_rfl)

set_option maxRecDepth 100000 in
theorem lifted (os : Os) (started : os.Started) (H : Type) (enc : TypeId × Value → H) (F : Stop.Interp) :
    ReturnsInHanded {} Tryd.checked os 4 .any (fun w args => ((Rows.OpenSpec.upto Rows.gramChecksSpec).pre enc Tryd.prog Tryd.f4 Rows.gramChecksUptoRow.domain false w args ∧ laidMetH Tryd.prog laid3 w) ∧ sizedMet enc Tryd.prog Tryd.f4 (Rows.OpenSpec.upto Rows.gramChecksSpec) false w args) (((Rows.OpenSpec.upto Rows.gramChecksSpec).at F).post enc Tryd.prog Tryd.f4 false true false false) := by
  refine returnsInHanded_of_cond_and (C := Tryd.checked) (s := Rows.OpenSpec.upto Rows.gramChecksSpec) (k := Rows.uptoSmall) (X := fun w _ => laidMetH Tryd.prog laid3 w) rfl (fun _ _ _ hh h => h.of_heap hh) own started (by kernel_rfl) Tryd.func4
    (witness_cond_shaped (enc := enc) (C := Tryd.checked) (os := os) (s := Rows.OpenSpec.upto Rows.gramChecksSpec) (k := Rows.uptoSmall) (X := fun w _ => laidMetH Tryd.prog laid3 w) rfl false (World.doorLaid Tryd.prog 400 os) #[.agg #[.int .i64 0, .int .i64 0, .int .i64 0, .slice none 0 0], .agg #[.int .i64 0, .int .i64 0, .int .i64 0, .slice none 0 0], .slice none 0 0, .int .i64 0, .int .i64 0] 8 rfl (World.shaped_of_RefB (by kernel_rfl) (by kernel_rfl)) (by kernel_rfl)
      (x := ([.agg [.lit (.int .i64 0), .lit (.int .i64 0), .lit (.int .i64 0), .nil], .agg [.lit (.int .i64 0), .lit (.int .i64 0), .lit (.int .i64 0), .nil], .nil, .lit (.int .i64 0), .lit (.int .i64 0)], [], [])) (by kernel_rfl) rfl (by kernel_rfl) (by kernel_rfl) (door_met os _)) ?_
  intro W base args ds gs before hval hW hk
  exact contract H enc W base args ds gs before hval hW hk

theorem over : Rows.gramChecksUptoRow.holds Tryd.pinned (Rows.OpenSpec.upto Rows.gramChecksSpec) :=
  OpenClaim.holds_of_cond 4 Tryd.f4 rfl rfl rfl rfl rfl rfl rfl ⟨rfl, rfl, rfl, rfl, rfl⟩ rfl rfl rfl rfl rfl (by kernel_rfl) Tryd.func4 (by kernel_rfl)
    (of_decide_eq_true (by kernel_rfl)) (by unfold Func.isWrapper; first | (rw [if_pos (by decide +kernel)]; kernel_rfl) | (rw [if_neg (by decide +kernel)]; exact ⟨rfl, rfl⟩))
    (fun os started H enc _ F => lifted os started H enc F)

theorem proved : Rows.GramChecksUptoCardSaid :=
  Claim7.holds_tied_plain_at .later [] [.data, .data, .data] true (true, "112011337a0dacfcdefe88a33d62df2b1906d79485f13644f8bc85a2afe52429") false
    over (fun _ h => by cases h) (by kernel_rfl) (fun _ h => by cases h) gramChecksUpto_row_tie rfl ⟨rfl, rfl⟩ (by kernel_rfl) rfl
    (fun f fn hf hfn => by
      obtain rfl : f = 4 := Option.some.inj ((show Tryd.prog.funcNamed "parlance/parllaw2.GramChecks" = some 4 by kernel_rfl).symm.trans hf) |>.symm
      obtain rfl : fn = Tryd.f4 := (Option.some.inj (Tryd.func4.symm.trans hfn)).symm
      exact ⟨by kernel_rfl, fun j t ht => by
        rw [Tryd.params4] at ht
        have hm : t ∈ [35, 35, 36, 3, 3] := by simpa using Array.mem_of_getElem? ht
        have hall : ([35, 35, 36, 3, 3].all fun u => !Tryd.prog.wantsStandIn u) = true := by kernel_rfl
        exact (show Tryd.prog.wantsStandIn t = false by simpa using List.all_eq_true.1 hall t hm)⟩)
    (by kernel_rfl)
end Go.Proofs.YtpgpognmdejdaaaDoor.gramChecks
#print axioms Go.Proofs.YtpgpognmdejdaaaDoor.gramChecks.proved
