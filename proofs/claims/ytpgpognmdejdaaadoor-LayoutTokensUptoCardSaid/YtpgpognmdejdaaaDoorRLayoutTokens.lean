/- parllaw2.LayoutTokens returns true for every text, every list of tokens and every three kinds, where what it reads is of bulk at most 1048576, and leaves them as they were. -/
import Derived.Test.YtpgpognmdejdaaaDoorRows
import Derived.Test.YtpgpognmdejdaaaDoorLibD
import Derived.Test.YtpgpognmdejdaaaDoorCLayToks
import Derived.Test.YtpgpognmdejdaaaDoorTie
import Derived.Test.YtpgpognmdejdaaaDoorCards
import Derived.WideLaws
set_option linter.all false
namespace Go.Proofs.YtpgpognmdejdaaaDoor.layoutTokens
open Go Go.Proofs.YtpgpognmdejdaaaDoor.GH Go.ChangeShapes Go.WideShapes Go.ChangeAt Go.RowKit
set_option linter.unusedVariables false
open Go.Proofs.YtpgpognmdejdaaaDoor

def bk : Bk where
  b := Rows.uptoBulk
  bs := Rows.uptoBulkAll
  nil := by simp [Rows.uptoBulkAll]
  cons := by simp [Rows.uptoBulkAll]
  lit l := by cases l <;> simp [Rows.uptoBulk]
  str := by simp [Rows.uptoBulk]
  nl := by simp [Rows.uptoBulk]
  sl := by simp [Rows.uptoBulk]
  ag := by simp [Rows.uptoBulk]

theorem own : ownKnob Tryd.prog.godebug = none := by kernel_rfl
theorem laid : laidOutB Tryd.prog = true := by kernel_rfl
theorem dt9 : Dec Tryd.prog bk 9 dStr := .str Tryd.underlying9
theorem dt28 : Dec Tryd.prog bk 28 dTok := Dec.token Tryd.underlying28 Tryd.underlying3 Tryd.underlying3 Tryd.underlying3 (by kernel_rfl) (by kernel_rfl) (by kernel_rfl) (by kernel_rfl) (by kernel_rfl) (by kernel_rfl) (by kernel_rfl)
theorem dt4 : Dec Tryd.prog bk 4 dB := .bool Tryd.underlying4

set_option maxRecDepth 100000 in
theorem contract (H : Type) (enc : TypeId × Value → H) (W : World) (base : Nat) (args : Array Value) (ds gs : List (DataW H)) (before : List MemPlace)
    (hval : ∀ (j : Nat) t v, Tryd.f3.params[j]? = some t → args[j]? = some v → Value.okWide Tryd.prog W .any base t v)
    (hW : DataW.Whole enc Tryd.prog Tryd.f3.params.toList Rows.layoutTokensSpec.vars false W args.toList ds gs before) (hk : Rows.uptoSmall H (ds ++ gs) = true) :
    Calls Tryd.prog 3 args W fun e W' => ∃ v, e = .returned v ∧ Rows.layoutTokensSpec.post enc Tryd.prog Tryd.f3 false true false false W args v W' := by
  obtain ⟨hin, rfl⟩ := allIn_of hval hW rfl
  rw [Tryd.params3] at hin
  obtain ⟨v0, l0, d0, m0, hl0, rfl, e0, ⟨p0, h0⟩, v1, l1, d1, m1, rfl, rfl, e1, ⟨p1, h1⟩, v2, l2, d2, m2, rfl, rfl, e2, ⟨p2, h2⟩, rfl, rfl⟩ := hin
  obtain rfl : args = #[v0, v1, v2] := by cases args; simp_all
  have hb : Rows.uptoBulkAll [d0, d1, d2] ≤ 1048576 := of_decide_eq_true hk
  have hb' : bk.b d0 + (bk.b d1 + (bk.b d2 + (0))) ≤ 1048576 := by simpa [Rows.uptoBulkAll, bk] using hb
  obtain ⟨x0, rfl, w0⟩ := arg_string (M := bk) Tryd.underlying9 e0 h0
  obtain ⟨s1, x1, rfl, g1, o1, w1⟩ := arg_slice (M := bk) Tryd.underlying22 dt28 (by kernel_rfl) e1 h1
  obtain ⟨x2, rfl, o2⟩ := arg_ar3 Tryd.underlying23 Tryd.underlying3 (by kernel_rfl) (by kernel_rfl) e2 h2
  refine (calls_true (LayoutTokens_spec (k := x2) g1 (by have := w1; have := wt_len dTok (fun _ => (by decide : 1 ≤ 4)) x1; omega))).mono fun e W' ⟨he, hg⟩ => ⟨_, he, ?_⟩
  exact post_true hW laid (of_decide_eq_true (by kernel_rfl)) rfl rfl Tryd.underlying4 rfl hg

abbrev laid3 : List (String × DataW Unit) := Rows.layoutTokensUptoRow.laid
def firstCells : Array Value := (match (Go.Pinned.utf8First : DataW Unit) with
  | .agg l => l.map fun (d : DataW Unit) => match d with
    | DataW.lit (.int k x) => Value.int k x
    | _ => Value.nilIface
  | _ => []).toArray
noncomputable def doorW (os : Os) : World := { World.doorLaid Tryd.prog 400 os with heap := (World.doorLaid Tryd.prog 400 os).heap.modify ((Tryd.prog.globalNamed "unicode/utf8.first").getD 0) fun o => match o with
  | .cells _ t fr => .cells firstCells t fr
  | o => o }
theorem door_met (os : Os) (args : Array Value) : laidMetH Tryd.prog laid3 ((doorW os).forCall (fun _ _ => 0) ⟨#[], args, []⟩).memory :=
  laidMetH_of_parts3 (fuel := 8) (laidMet_of_run' 8 (by kernel_rfl) (by kernel_rfl)) (by kernel_rfl) (by kernel_rfl)

set_option maxRecDepth 100000 in
theorem lifted (os : Os) (started : os.Started) (H : Type) (enc : TypeId × Value → H) (F : Stop.Interp) :
    ReturnsInHanded {} Tryd.checked os 3 .any (fun w args => ((Rows.OpenSpec.upto Rows.layoutTokensSpec).pre enc Tryd.prog Tryd.f3 Rows.layoutTokensUptoRow.domain false w args ∧ laidMetH Tryd.prog laid3 w) ∧ sizedMet enc Tryd.prog Tryd.f3 (Rows.OpenSpec.upto Rows.layoutTokensSpec) false w args) (((Rows.OpenSpec.upto Rows.layoutTokensSpec).at F).post enc Tryd.prog Tryd.f3 false true false false) := by
  refine returnsInHanded_of_cond_and (C := Tryd.checked) (s := Rows.OpenSpec.upto Rows.layoutTokensSpec) (k := Rows.uptoSmall) (X := fun w _ => laidMetH Tryd.prog laid3 w) rfl (fun _ _ _ hh h => h.of_heap hh) own started (by kernel_rfl) Tryd.func3
    (witness_cond_shaped (enc := enc) (C := Tryd.checked) (os := os) (s := Rows.OpenSpec.upto Rows.layoutTokensSpec) (k := Rows.uptoSmall) (X := fun w _ => laidMetH Tryd.prog laid3 w) rfl false (doorW os) #[.string (ByteArray.mk #[]), .slice none 0 0, .agg #[.int .i64 0, .int .i64 0, .int .i64 0]] 8 rfl (World.shaped_of_RefB (by kernel_rfl) (by kernel_rfl)) (by kernel_rfl)
      (x := ([.lit (.string []), .nil, .agg [.lit (.int .i64 0), .lit (.int .i64 0), .lit (.int .i64 0)]], [], [])) (by kernel_rfl) rfl (by kernel_rfl) (by kernel_rfl) (door_met os _)) ?_
  intro W base args ds gs before hval hW hk
  exact contract H enc W base args ds gs before hval hW hk

theorem over : Rows.layoutTokensUptoRow.holds Tryd.pinned (Rows.OpenSpec.upto Rows.layoutTokensSpec) :=
  OpenClaim.holds_of_cond 3 Tryd.f3 rfl rfl rfl rfl rfl rfl rfl ⟨rfl, rfl, rfl, rfl, rfl⟩ rfl rfl rfl rfl rfl (by kernel_rfl) Tryd.func3 (by kernel_rfl)
    (of_decide_eq_true (by kernel_rfl)) (by unfold Func.isWrapper; first | (rw [if_pos (by decide +kernel)]; kernel_rfl) | (rw [if_neg (by decide +kernel)]; exact ⟨rfl, rfl⟩))
    (fun os started H enc _ F => lifted os started H enc F)

theorem proved : Rows.LayoutTokensUptoCardSaid :=
  Claim7.holds_tied_plain_at .later [] [.data, .pinned] true (true, "112011337a0dacfcdefe88a33d62df2b1906d79485f13644f8bc85a2afe52429") false
    over (fun _ h => by cases h) (by kernel_rfl) (fun _ h => by cases h) layoutTokensUpto_row_tie rfl ⟨rfl, rfl⟩ (by kernel_rfl) rfl
    (fun f fn hf hfn => by
      obtain rfl : f = 3 := Option.some.inj ((show Tryd.prog.funcNamed "parlance/parllaw2.LayoutTokens" = some 3 by kernel_rfl).symm.trans hf) |>.symm
      obtain rfl : fn = Tryd.f3 := (Option.some.inj (Tryd.func3.symm.trans hfn)).symm
      exact ⟨by kernel_rfl, fun j t ht => by
        rw [Tryd.params3] at ht
        have hm : t ∈ [9, 22, 23] := by simpa using Array.mem_of_getElem? ht
        have hall : ([9, 22, 23].all fun u => !Tryd.prog.wantsStandIn u) = true := by kernel_rfl
        exact (show Tryd.prog.wantsStandIn t = false by simpa using List.all_eq_true.1 hall t hm)⟩)
    (by kernel_rfl)
end Go.Proofs.YtpgpognmdejdaaaDoor.layoutTokens
#print axioms Go.Proofs.YtpgpognmdejdaaaDoor.layoutTokens.proved
