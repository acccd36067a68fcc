/-
  No cell of these rows narrows 'for every input' (looked for: loops, veiled, ifaces, maps, wideKeys, modest, calm, conditions, laid).
  DERIVED. THE GIVEN ROWS OF THIS SEAT. 12 by the template 'for every input the law returns true; each argument reads behind the call as it read before'; 0 by the template 'total and deterministic' (their statements: YtilkllimnledeaaTotals.lean).
  GIVEN WITH THE SEED: the statements are not yours to turn. If you find one false, say at which input.
  Laid BY PROGRAM, IN A SANDBOX (cutbox-rows.mjs): the forced cells as the released guide's own fill.sh prints them over the translation 51d0f8ad8eee6262… (all of the seat's roots in one cut). By AI agents, Wed Nov 11 2026. No macro, syntax, notation, axiom, sorry.
-/
import Derived.Test.YtilkllimnledeaaChecked
import GoSem.Claim
import GoSem.ClaimJoined
import GoSem.ClaimMapViews
import Derived.JoinedTies
import Derived.KernelRfl
namespace Go.Proofs.Ytilkllimnledeaa
/- THE CELL 'sum', in the pinned program and in every row, IS THE sha256 OF THE DUMP (.gsa) THAT YtilkllimnledeaaProg.lean LOADS. Nothing in Lean hashes anything: it is a label: what it is worth is what the hold of that sum in a sandbox is worth. -/
noncomputable def Try.pinned : Pinned := { name := "ytilkllimnledeaa", sum := "51d0f8ad8eee626241d85f942c163a2da7c86050f71560c20245c2f96caafb7d", checked := Try.checked }
namespace Rows
def none {H : Type} : Left H := { results := [], args := [] }

/-- 'parlkeep2.LayoutWellFormed': WHATEVER THE INPUT: true; the input reads as it did. -/
def layoutWellFormedSpec : ChangeSpec := { name := "layoutWellFormed", fn := fun _ => fun
  | [d1, d2, d3] => { results := [.lit (.bool true)], args := [d1, d2, d3] }
  | _ => none }
def layoutWellFormedRow : OpenClaim := { program := "ytilkllimnledeaa", sum := "51d0f8ad8eee626241d85f942c163a2da7c86050f71560c20245c2f96caafb7d", func := "parlance/parlkeep2.LayoutWellFormed", spec := "layoutWellFormed", plainKeys := false, apart := false }
def LayoutWellFormedSaid : Prop := layoutWellFormedRow.holds Try.pinned (OpenSpec.ofChange layoutWellFormedSpec)

/-- ITS FALSE NEIGHBOUR: 'it returns false'. Refute it at one input. -/
def layoutWellFormedWrong : ChangeSpec := { name := "layoutWellFormed", fn := fun _ => fun
  | [d1, d2, d3] => { results := [.lit (.bool false)], args := [d1, d2, d3] }
  | _ => none }
def LayoutWellFormedWrongFalsely : Prop := layoutWellFormedRow.holds Try.pinned (OpenSpec.ofChange layoutWellFormedWrong)

/-- 'parllaw2.PrecClimbs': WHATEVER THE INPUT: true; the input reads as it did. -/
def precClimbsSpec : ChangeSpec := { name := "precClimbs", fn := fun _ => fun
  | [d1, d2] => { results := [.lit (.bool true)], args := [d1, d2] }
  | _ => none }
def precClimbsRow : OpenClaim := { program := "ytilkllimnledeaa", sum := "51d0f8ad8eee626241d85f942c163a2da7c86050f71560c20245c2f96caafb7d", func := "parlance/parllaw2.PrecClimbs", spec := "precClimbs", unfollowed := true, recurses := true, plainKeys := false, apart := false }
def PrecClimbsSaid : Prop := precClimbsRow.holds Try.pinned (OpenSpec.ofChange precClimbsSpec)

/-- ITS FALSE NEIGHBOUR: 'it returns false'. Refute it at one input. -/
def precClimbsWrong : ChangeSpec := { name := "precClimbs", fn := fun _ => fun
  | [d1, d2] => { results := [.lit (.bool false)], args := [d1, d2] }
  | _ => none }
def PrecClimbsWrongFalsely : Prop := precClimbsRow.holds Try.pinned (OpenSpec.ofChange precClimbsWrong)

/-- 'parlkeep2.ClosedUnion': WHATEVER THE INPUT: true; the input reads as it did. -/
def closedUnionSpec : ChangeSpec := { name := "closedUnion", fn := fun _ => fun
  | [d1, d2, d3] => { results := [.lit (.bool true)], args := [d1, d2, d3] }
  | _ => none }
def closedUnionRow : OpenClaim := { program := "ytilkllimnledeaa", sum := "51d0f8ad8eee626241d85f942c163a2da7c86050f71560c20245c2f96caafb7d", func := "parlance/parlkeep2.ClosedUnion", spec := "closedUnion", unfollowed := true, recurses := true, plainKeys := false, apart := false }
def ClosedUnionSaid : Prop := closedUnionRow.holds Try.pinned (OpenSpec.ofChange closedUnionSpec)

/-- ITS FALSE NEIGHBOUR: 'it returns false'. Refute it at one input. -/
def closedUnionWrong : ChangeSpec := { name := "closedUnion", fn := fun _ => fun
  | [d1, d2, d3] => { results := [.lit (.bool false)], args := [d1, d2, d3] }
  | _ => none }
def ClosedUnionWrongFalsely : Prop := closedUnionRow.holds Try.pinned (OpenSpec.ofChange closedUnionWrong)

/-- 'parlkeep2.GramTreesHaveMeaning': WHATEVER THE INPUT: true; the input reads as it did. -/
def gramTreesHaveMeaningSpec : ChangeSpec := { name := "gramTreesHaveMeaning", fn := fun _ => fun
  | [d1, d2] => { results := [.lit (.bool true)], args := [d1, d2] }
  | _ => none }
def gramTreesHaveMeaningRow : OpenClaim := { program := "ytilkllimnledeaa", sum := "51d0f8ad8eee626241d85f942c163a2da7c86050f71560c20245c2f96caafb7d", func := "parlance/parlkeep2.GramTreesHaveMeaning", spec := "gramTreesHaveMeaning", unfollowed := true, recurses := true, plainKeys := false, apart := false }
def GramTreesHaveMeaningSaid : Prop := gramTreesHaveMeaningRow.holds Try.pinned (OpenSpec.ofChange gramTreesHaveMeaningSpec)

/-- ITS FALSE NEIGHBOUR: 'it returns false'. Refute it at one input. -/
def gramTreesHaveMeaningWrong : ChangeSpec := { name := "gramTreesHaveMeaning", fn := fun _ => fun
  | [d1, d2] => { results := [.lit (.bool false)], args := [d1, d2] }
  | _ => none }
def GramTreesHaveMeaningWrongFalsely : Prop := gramTreesHaveMeaningRow.holds Try.pinned (OpenSpec.ofChange gramTreesHaveMeaningWrong)

/-- 'parlkeep2.FactorCounts': WHATEVER THE INPUT: true; the input reads as it did. -/
def factorCountsSpec : ChangeSpec := { name := "factorCounts", fn := fun _ => fun
  | [d1, d2] => { results := [.lit (.bool true)], args := [d1, d2] }
  | _ => none }
def factorCountsRow : OpenClaim := { program := "ytilkllimnledeaa", sum := "51d0f8ad8eee626241d85f942c163a2da7c86050f71560c20245c2f96caafb7d", func := "parlance/parlkeep2.FactorCounts", spec := "factorCounts", unfollowed := true, recurses := true, plainKeys := false, apart := false }
def FactorCountsSaid : Prop := factorCountsRow.holds Try.pinned (OpenSpec.ofChange factorCountsSpec)

/-- ITS FALSE NEIGHBOUR: 'it returns false'. Refute it at one input. -/
def factorCountsWrong : ChangeSpec := { name := "factorCounts", fn := fun _ => fun
  | [d1, d2] => { results := [.lit (.bool false)], args := [d1, d2] }
  | _ => none }
def FactorCountsWrongFalsely : Prop := factorCountsRow.holds Try.pinned (OpenSpec.ofChange factorCountsWrong)

/-- 'parlkeep2.FactorTrees': WHATEVER THE INPUT: true; the input reads as it did. -/
def factorTreesSpec : ChangeSpec := { name := "factorTrees", fn := fun _ => fun
  | [d1, d2] => { results := [.lit (.bool true)], args := [d1, d2] }
  | _ => none }
def factorTreesRow : OpenClaim := { program := "ytilkllimnledeaa", sum := "51d0f8ad8eee626241d85f942c163a2da7c86050f71560c20245c2f96caafb7d", func := "parlance/parlkeep2.FactorTrees", spec := "factorTrees", unfollowed := true, recurses := true, plainKeys := false, apart := false }
def FactorTreesSaid : Prop := factorTreesRow.holds Try.pinned (OpenSpec.ofChange factorTreesSpec)

/-- ITS FALSE NEIGHBOUR: 'it returns false'. Refute it at one input. -/
def factorTreesWrong : ChangeSpec := { name := "factorTrees", fn := fun _ => fun
  | [d1, d2] => { results := [.lit (.bool false)], args := [d1, d2] }
  | _ => none }
def FactorTreesWrongFalsely : Prop := factorTreesRow.holds Try.pinned (OpenSpec.ofChange factorTreesWrong)

/-- 'parlkeep2.CycleIsOne': WHATEVER THE INPUT: true; the input reads as it did. -/
def cycleIsOneSpec : ChangeSpec := { name := "cycleIsOne", fn := fun _ => fun
  | [d] => { results := [.lit (.bool true)], args := [d] }
  | _ => none }
def cycleIsOneRow : OpenClaim := { program := "ytilkllimnledeaa", sum := "51d0f8ad8eee626241d85f942c163a2da7c86050f71560c20245c2f96caafb7d", func := "parlance/parlkeep2.CycleIsOne", spec := "cycleIsOne", unfollowed := true, recurses := true, plainKeys := false, apart := false }
def CycleIsOneSaid : Prop := cycleIsOneRow.holds Try.pinned (OpenSpec.ofChange cycleIsOneSpec)

/-- ITS FALSE NEIGHBOUR: 'it returns false'. Refute it at one input. -/
def cycleIsOneWrong : ChangeSpec := { name := "cycleIsOne", fn := fun _ => fun
  | [d] => { results := [.lit (.bool false)], args := [d] }
  | _ => none }
def CycleIsOneWrongFalsely : Prop := cycleIsOneRow.holds Try.pinned (OpenSpec.ofChange cycleIsOneWrong)

/-- 'parlkeep2.LeftrecNone': WHATEVER THE INPUT: true; the input reads as it did. -/
def leftrecNoneSpec : ChangeSpec := { name := "leftrecNone", fn := fun _ => fun
  | [d] => { results := [.lit (.bool true)], args := [d] }
  | _ => none }
def leftrecNoneRow : OpenClaim := { program := "ytilkllimnledeaa", sum := "51d0f8ad8eee626241d85f942c163a2da7c86050f71560c20245c2f96caafb7d", func := "parlance/parlkeep2.LeftrecNone", spec := "leftrecNone", unfollowed := true, recurses := true, plainKeys := false, apart := false }
def LeftrecNoneSaid : Prop := leftrecNoneRow.holds Try.pinned (OpenSpec.ofChange leftrecNoneSpec)

/-- ITS FALSE NEIGHBOUR: 'it returns false'. Refute it at one input. -/
def leftrecNoneWrong : ChangeSpec := { name := "leftrecNone", fn := fun _ => fun
  | [d] => { results := [.lit (.bool false)], args := [d] }
  | _ => none }
def LeftrecNoneWrongFalsely : Prop := leftrecNoneRow.holds Try.pinned (OpenSpec.ofChange leftrecNoneWrong)

/-- 'parlkeep2.ClosedReverse': WHATEVER THE INPUT: true; the input reads as it did. -/
def closedReverseSpec : ChangeSpec := { name := "closedReverse", fn := fun _ => fun
  | [d1, d2, d3] => { results := [.lit (.bool true)], args := [d1, d2, d3] }
  | _ => none }
def closedReverseRow : OpenClaim := { program := "ytilkllimnledeaa", sum := "51d0f8ad8eee626241d85f942c163a2da7c86050f71560c20245c2f96caafb7d", func := "parlance/parlkeep2.ClosedReverse", spec := "closedReverse", unfollowed := true, recurses := true, plainKeys := false, apart := false }
def ClosedReverseSaid : Prop := closedReverseRow.holds Try.pinned (OpenSpec.ofChange closedReverseSpec)

/-- ITS FALSE NEIGHBOUR: 'it returns false'. Refute it at one input. -/
def closedReverseWrong : ChangeSpec := { name := "closedReverse", fn := fun _ => fun
  | [d1, d2, d3] => { results := [.lit (.bool false)], args := [d1, d2, d3] }
  | _ => none }
def ClosedReverseWrongFalsely : Prop := closedReverseRow.holds Try.pinned (OpenSpec.ofChange closedReverseWrong)

/-- 'parlkeep2.UsefulWords': WHATEVER THE INPUT: true; the input reads as it did. -/
def usefulWordsSpec : ChangeSpec := { name := "usefulWords", fn := fun _ => fun
  | [d1, d2] => { results := [.lit (.bool true)], args := [d1, d2] }
  | _ => none }
def usefulWordsRow : OpenClaim := { program := "ytilkllimnledeaa", sum := "51d0f8ad8eee626241d85f942c163a2da7c86050f71560c20245c2f96caafb7d", func := "parlance/parlkeep2.UsefulWords", spec := "usefulWords", unfollowed := true, recurses := true, plainKeys := false, apart := false }
def UsefulWordsSaid : Prop := usefulWordsRow.holds Try.pinned (OpenSpec.ofChange usefulWordsSpec)

/-- ITS FALSE NEIGHBOUR: 'it returns false'. Refute it at one input. -/
def usefulWordsWrong : ChangeSpec := { name := "usefulWords", fn := fun _ => fun
  | [d1, d2] => { results := [.lit (.bool false)], args := [d1, d2] }
  | _ => none }
def UsefulWordsWrongFalsely : Prop := usefulWordsRow.holds Try.pinned (OpenSpec.ofChange usefulWordsWrong)

/-- 'parlkeep2.InlineTrees': WHATEVER THE INPUT: true; the input reads as it did. -/
def inlineTreesSpec : ChangeSpec := { name := "inlineTrees", fn := fun _ => fun
  | [d1, d2, d3] => { results := [.lit (.bool true)], args := [d1, d2, d3] }
  | _ => none }
def inlineTreesRow : OpenClaim := { program := "ytilkllimnledeaa", sum := "51d0f8ad8eee626241d85f942c163a2da7c86050f71560c20245c2f96caafb7d", func := "parlance/parlkeep2.InlineTrees", spec := "inlineTrees", unfollowed := true, recurses := true, plainKeys := false, apart := false }
def InlineTreesSaid : Prop := inlineTreesRow.holds Try.pinned (OpenSpec.ofChange inlineTreesSpec)

/-- ITS FALSE NEIGHBOUR: 'it returns false'. Refute it at one input. -/
def inlineTreesWrong : ChangeSpec := { name := "inlineTrees", fn := fun _ => fun
  | [d1, d2, d3] => { results := [.lit (.bool false)], args := [d1, d2, d3] }
  | _ => none }
def InlineTreesWrongFalsely : Prop := inlineTreesRow.holds Try.pinned (OpenSpec.ofChange inlineTreesWrong)

/-- 'parlkeep2.InlineCounts': WHATEVER THE INPUT: true; the input reads as it did. -/
def inlineCountsSpec : ChangeSpec := { name := "inlineCounts", fn := fun _ => fun
  | [d1, d2, d3] => { results := [.lit (.bool true)], args := [d1, d2, d3] }
  | _ => none }
def inlineCountsRow : OpenClaim := { program := "ytilkllimnledeaa", sum := "51d0f8ad8eee626241d85f942c163a2da7c86050f71560c20245c2f96caafb7d", func := "parlance/parlkeep2.InlineCounts", spec := "inlineCounts", unfollowed := true, recurses := true, plainKeys := false, apart := false }
def InlineCountsSaid : Prop := inlineCountsRow.holds Try.pinned (OpenSpec.ofChange inlineCountsSpec)

/-- ITS FALSE NEIGHBOUR: 'it returns false'. Refute it at one input. -/
def inlineCountsWrong : ChangeSpec := { name := "inlineCounts", fn := fun _ => fun
  | [d1, d2, d3] => { results := [.lit (.bool false)], args := [d1, d2, d3] }
  | _ => none }
def InlineCountsWrongFalsely : Prop := inlineCountsRow.holds Try.pinned (OpenSpec.ofChange inlineCountsWrong)

/- THE SECOND FORM. 'bulk': how many values and letters a reading holds, each counted each time it is reached (what is shared counts as often as it is met; a slice's spare places count too). A statement '..UptoSaid' is the law's where the arguments, and the package variables that the reading takes, are together of bulk at most 1048576: NARROWER than '..Said'. Prove '..Said' where nothing that the law and all that it calls make is longer than what came in: it says more and counts as full. Else prove '..UptoSaid'. A law counts once. -/
mutual
def uptoBulk {H : Type} : DataW H → Nat
  | .lit (.string bytes) => bytes.length + 1
  | .lit _ => 1
  | .nil => 1
  | .ptr d => uptoBulk d + 1
  | .slice elems spare => uptoBulkAll elems + uptoBulkAll spare + 1
  | .agg parts => uptoBulkAll parts + 1
  | .iface _ d => uptoBulk d + 1
  | .map entries => uptoBulkEntries entries + 1
  | .held _ => 1
def uptoBulkAll {H : Type} : List (DataW H) → Nat
  | [] => 0
  | d :: r => uptoBulk d + uptoBulkAll r
def uptoBulkEntries {H : Type} : List (Lit × DataW H) → Nat
  | [] => 0
  | x :: r => uptoBulkEntry x + uptoBulkEntries r
def uptoBulkEntry {H : Type} : Lit × DataW H → Nat
  | (.string bytes, d) => bytes.length + uptoBulk d + 1
  | (_, d) => uptoBulk d + 1
 end
def uptoSmall : (H : Type) → List (DataW H) → Bool := fun _ ds => decide (uptoBulkAll ds ≤ 1048576)
def OpenSpec.upto (s : _root_.Go.ChangeSpec) : _root_.Go.OpenSpec := { _root_.Go.OpenSpec.ofChange s with cond := some uptoSmall }

/-- 'parlkeep2.LayoutWellFormed', WHERE WHAT IT READS IS OF BULK AT MOST 1048576: true; the input reads as it did. -/
def layoutWellFormedUptoRow : OpenClaim := { program := "ytilkllimnledeaa", sum := "51d0f8ad8eee626241d85f942c163a2da7c86050f71560c20245c2f96caafb7d", func := "parlance/parlkeep2.LayoutWellFormed", spec := "layoutWellFormed", plainKeys := false, apart := false, narrowed := true }
def LayoutWellFormedUptoSaid : Prop := layoutWellFormedUptoRow.holds Try.pinned (OpenSpec.upto layoutWellFormedSpec)

/-- 'parllaw2.PrecClimbs', WHERE WHAT IT READS IS OF BULK AT MOST 1048576: true; the input reads as it did. -/
def precClimbsUptoRow : OpenClaim := { program := "ytilkllimnledeaa", sum := "51d0f8ad8eee626241d85f942c163a2da7c86050f71560c20245c2f96caafb7d", func := "parlance/parllaw2.PrecClimbs", spec := "precClimbs", unfollowed := true, recurses := true, plainKeys := false, apart := false, narrowed := true }
def PrecClimbsUptoSaid : Prop := precClimbsUptoRow.holds Try.pinned (OpenSpec.upto precClimbsSpec)

/-- 'parlkeep2.ClosedUnion', WHERE WHAT IT READS IS OF BULK AT MOST 1048576: true; the input reads as it did. -/
def closedUnionUptoRow : OpenClaim := { program := "ytilkllimnledeaa", sum := "51d0f8ad8eee626241d85f942c163a2da7c86050f71560c20245c2f96caafb7d", func := "parlance/parlkeep2.ClosedUnion", spec := "closedUnion", unfollowed := true, recurses := true, plainKeys := false, apart := false, narrowed := true }
def ClosedUnionUptoSaid : Prop := closedUnionUptoRow.holds Try.pinned (OpenSpec.upto closedUnionSpec)

/-- 'parlkeep2.GramTreesHaveMeaning', WHERE WHAT IT READS IS OF BULK AT MOST 1048576: true; the input reads as it did. -/
def gramTreesHaveMeaningUptoRow : OpenClaim := { program := "ytilkllimnledeaa", sum := "51d0f8ad8eee626241d85f942c163a2da7c86050f71560c20245c2f96caafb7d", func := "parlance/parlkeep2.GramTreesHaveMeaning", spec := "gramTreesHaveMeaning", unfollowed := true, recurses := true, plainKeys := false, apart := false, narrowed := true }
def GramTreesHaveMeaningUptoSaid : Prop := gramTreesHaveMeaningUptoRow.holds Try.pinned (OpenSpec.upto gramTreesHaveMeaningSpec)

/-- 'parlkeep2.FactorCounts', WHERE WHAT IT READS IS OF BULK AT MOST 1048576: true; the input reads as it did. -/
def factorCountsUptoRow : OpenClaim := { program := "ytilkllimnledeaa", sum := "51d0f8ad8eee626241d85f942c163a2da7c86050f71560c20245c2f96caafb7d", func := "parlance/parlkeep2.FactorCounts", spec := "factorCounts", unfollowed := true, recurses := true, plainKeys := false, apart := false, narrowed := true }
def FactorCountsUptoSaid : Prop := factorCountsUptoRow.holds Try.pinned (OpenSpec.upto factorCountsSpec)

/-- 'parlkeep2.FactorTrees', WHERE WHAT IT READS IS OF BULK AT MOST 1048576: true; the input reads as it did. -/
def factorTreesUptoRow : OpenClaim := { program := "ytilkllimnledeaa", sum := "51d0f8ad8eee626241d85f942c163a2da7c86050f71560c20245c2f96caafb7d", func := "parlance/parlkeep2.FactorTrees", spec := "factorTrees", unfollowed := true, recurses := true, plainKeys := false, apart := false, narrowed := true }
def FactorTreesUptoSaid : Prop := factorTreesUptoRow.holds Try.pinned (OpenSpec.upto factorTreesSpec)

/-- 'parlkeep2.CycleIsOne', WHERE WHAT IT READS IS OF BULK AT MOST 1048576: true; the input reads as it did. -/
def cycleIsOneUptoRow : OpenClaim := { program := "ytilkllimnledeaa", sum := "51d0f8ad8eee626241d85f942c163a2da7c86050f71560c20245c2f96caafb7d", func := "parlance/parlkeep2.CycleIsOne", spec := "cycleIsOne", unfollowed := true, recurses := true, plainKeys := false, apart := false, narrowed := true }
def CycleIsOneUptoSaid : Prop := cycleIsOneUptoRow.holds Try.pinned (OpenSpec.upto cycleIsOneSpec)

/-- 'parlkeep2.LeftrecNone', WHERE WHAT IT READS IS OF BULK AT MOST 1048576: true; the input reads as it did. -/
def leftrecNoneUptoRow : OpenClaim := { program := "ytilkllimnledeaa", sum := "51d0f8ad8eee626241d85f942c163a2da7c86050f71560c20245c2f96caafb7d", func := "parlance/parlkeep2.LeftrecNone", spec := "leftrecNone", unfollowed := true, recurses := true, plainKeys := false, apart := false, narrowed := true }
def LeftrecNoneUptoSaid : Prop := leftrecNoneUptoRow.holds Try.pinned (OpenSpec.upto leftrecNoneSpec)

/-- 'parlkeep2.ClosedReverse', WHERE WHAT IT READS IS OF BULK AT MOST 1048576: true; the input reads as it did. -/
def closedReverseUptoRow : OpenClaim := { program := "ytilkllimnledeaa", sum := "51d0f8ad8eee626241d85f942c163a2da7c86050f71560c20245c2f96caafb7d", func := "parlance/parlkeep2.ClosedReverse", spec := "closedReverse", unfollowed := true, recurses := true, plainKeys := false, apart := false, narrowed := true }
def ClosedReverseUptoSaid : Prop := closedReverseUptoRow.holds Try.pinned (OpenSpec.upto closedReverseSpec)

/-- 'parlkeep2.UsefulWords', WHERE WHAT IT READS IS OF BULK AT MOST 1048576: true; the input reads as it did. -/
def usefulWordsUptoRow : OpenClaim := { program := "ytilkllimnledeaa", sum := "51d0f8ad8eee626241d85f942c163a2da7c86050f71560c20245c2f96caafb7d", func := "parlance/parlkeep2.UsefulWords", spec := "usefulWords", unfollowed := true, recurses := true, plainKeys := false, apart := false, narrowed := true }
def UsefulWordsUptoSaid : Prop := usefulWordsUptoRow.holds Try.pinned (OpenSpec.upto usefulWordsSpec)

/-- 'parlkeep2.InlineTrees', WHERE WHAT IT READS IS OF BULK AT MOST 1048576: true; the input reads as it did. -/
def inlineTreesUptoRow : OpenClaim := { program := "ytilkllimnledeaa", sum := "51d0f8ad8eee626241d85f942c163a2da7c86050f71560c20245c2f96caafb7d", func := "parlance/parlkeep2.InlineTrees", spec := "inlineTrees", unfollowed := true, recurses := true, plainKeys := false, apart := false, narrowed := true }
def InlineTreesUptoSaid : Prop := inlineTreesUptoRow.holds Try.pinned (OpenSpec.upto inlineTreesSpec)

/-- 'parlkeep2.InlineCounts', WHERE WHAT IT READS IS OF BULK AT MOST 1048576: true; the input reads as it did. -/
def inlineCountsUptoRow : OpenClaim := { program := "ytilkllimnledeaa", sum := "51d0f8ad8eee626241d85f942c163a2da7c86050f71560c20245c2f96caafb7d", func := "parlance/parlkeep2.InlineCounts", spec := "inlineCounts", unfollowed := true, recurses := true, plainKeys := false, apart := false, narrowed := true }
def InlineCountsUptoSaid : Prop := inlineCountsUptoRow.holds Try.pinned (OpenSpec.upto inlineCountsSpec)

end Rows
end Go.Proofs.Ytilkllimnledeaa
