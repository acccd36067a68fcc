/-
  NARROWER THAN 'FOR EVERY INPUT', by the rows' own cells (each row's printed sentence says how): PrecTrees: loops.
  DERIVED. THE GIVEN ROWS OF THIS SEAT. 12 by the template 'for every input the law returns true; each argument reads behind the call as it read before'; 0 by the template 'total and deterministic' (their statements: YtkhmghobnocakaaTotals.lean).
  GIVEN WITH THE SEED: the statements are not yours to turn. If you find one false, say at which input.
  Laid BY PROGRAM, IN A SANDBOX (cutbox-rows.mjs): the forced cells as the released guide's own fill.sh prints them over the translation 6fa5cc84e8ebe4de… (all of the seat's roots in one cut). By AI agents, Wed Nov 11 2026. No macro, syntax, notation, axiom, sorry.
-/
import Derived.Test.YtkhmghobnocakaaChecked
import GoSem.Claim
import GoSem.ClaimJoined
import GoSem.ClaimMapViews
import Derived.JoinedTies
import Derived.KernelRfl
namespace Go.Proofs.Ytkhmghobnocakaa
/- THE CELL 'sum', in the pinned program and in every row, IS THE sha256 OF THE DUMP (.gsa) THAT YtkhmghobnocakaaProg.lean LOADS. Nothing in Lean hashes anything: it is a label: what it is worth is what the hold of that sum in a sandbox is worth. -/
noncomputable def Try.pinned : Pinned := { name := "ytkhmghobnocakaa", sum := "6fa5cc84e8ebe4decbf49b3f06d1cbcbe09b1c9784b62fc6e9978deb6237332e", checked := Try.checked }
namespace Rows
def none {H : Type} : Left H := { results := [], args := [] }

/-- 'parlkeep2.UsefulOnce': WHATEVER THE INPUT: true; the input reads as it did. -/
def usefulOnceSpec : ChangeSpec := { name := "usefulOnce", fn := fun _ => fun
  | [d] => { results := [.lit (.bool true)], args := [d] }
  | _ => none }
def usefulOnceRow : OpenClaim := { program := "ytkhmghobnocakaa", sum := "6fa5cc84e8ebe4decbf49b3f06d1cbcbe09b1c9784b62fc6e9978deb6237332e", func := "parlance/parlkeep2.UsefulOnce", spec := "usefulOnce", unfollowed := true, recurses := true, plainKeys := false, apart := false }
def UsefulOnceSaid : Prop := usefulOnceRow.holds Try.pinned (OpenSpec.ofChange usefulOnceSpec)

/-- ITS FALSE NEIGHBOUR: 'it returns false'. Refute it at one input. -/
def usefulOnceWrong : ChangeSpec := { name := "usefulOnce", fn := fun _ => fun
  | [d] => { results := [.lit (.bool false)], args := [d] }
  | _ => none }
def UsefulOnceWrongFalsely : Prop := usefulOnceRow.holds Try.pinned (OpenSpec.ofChange usefulOnceWrong)

/-- 'parlkeep2.PrecUnambiguous': WHATEVER THE INPUT: true; the input reads as it did. -/
def precUnambiguousSpec : ChangeSpec := { name := "precUnambiguous", fn := fun _ => fun
  | [d1, d2] => { results := [.lit (.bool true)], args := [d1, d2] }
  | _ => none }
def precUnambiguousRow : OpenClaim := { program := "ytkhmghobnocakaa", sum := "6fa5cc84e8ebe4decbf49b3f06d1cbcbe09b1c9784b62fc6e9978deb6237332e", func := "parlance/parlkeep2.PrecUnambiguous", spec := "precUnambiguous", unfollowed := true, recurses := true, plainKeys := false, apart := false }
def PrecUnambiguousSaid : Prop := precUnambiguousRow.holds Try.pinned (OpenSpec.ofChange precUnambiguousSpec)

/-- ITS FALSE NEIGHBOUR: 'it returns false'. Refute it at one input. -/
def precUnambiguousWrong : ChangeSpec := { name := "precUnambiguous", fn := fun _ => fun
  | [d1, d2] => { results := [.lit (.bool false)], args := [d1, d2] }
  | _ => none }
def PrecUnambiguousWrongFalsely : Prop := precUnambiguousRow.holds Try.pinned (OpenSpec.ofChange precUnambiguousWrong)

/-- 'parlkeep2.PrecBackAllowed': WHATEVER THE INPUT: true; the input reads as it did. -/
def precBackAllowedSpec : ChangeSpec := { name := "precBackAllowed", fn := fun _ => fun
  | [d1, d2] => { results := [.lit (.bool true)], args := [d1, d2] }
  | _ => none }
def precBackAllowedRow : OpenClaim := { program := "ytkhmghobnocakaa", sum := "6fa5cc84e8ebe4decbf49b3f06d1cbcbe09b1c9784b62fc6e9978deb6237332e", func := "parlance/parlkeep2.PrecBackAllowed", spec := "precBackAllowed", unfollowed := true, recurses := true, plainKeys := false, apart := false }
def PrecBackAllowedSaid : Prop := precBackAllowedRow.holds Try.pinned (OpenSpec.ofChange precBackAllowedSpec)

/-- ITS FALSE NEIGHBOUR: 'it returns false'. Refute it at one input. -/
def precBackAllowedWrong : ChangeSpec := { name := "precBackAllowed", fn := fun _ => fun
  | [d1, d2] => { results := [.lit (.bool false)], args := [d1, d2] }
  | _ => none }
def PrecBackAllowedWrongFalsely : Prop := precBackAllowedRow.holds Try.pinned (OpenSpec.ofChange precBackAllowedWrong)

/-- 'parlkeep2.PrecClimbOnly': WHATEVER THE INPUT: true; the input reads as it did. -/
def precClimbOnlySpec : ChangeSpec := { name := "precClimbOnly", fn := fun _ => fun
  | [d1, d2] => { results := [.lit (.bool true)], args := [d1, d2] }
  | _ => none }
def precClimbOnlyRow : OpenClaim := { program := "ytkhmghobnocakaa", sum := "6fa5cc84e8ebe4decbf49b3f06d1cbcbe09b1c9784b62fc6e9978deb6237332e", func := "parlance/parlkeep2.PrecClimbOnly", spec := "precClimbOnly", unfollowed := true, recurses := true, plainKeys := false, apart := false }
def PrecClimbOnlySaid : Prop := precClimbOnlyRow.holds Try.pinned (OpenSpec.ofChange precClimbOnlySpec)

/-- ITS FALSE NEIGHBOUR: 'it returns false'. Refute it at one input. -/
def precClimbOnlyWrong : ChangeSpec := { name := "precClimbOnly", fn := fun _ => fun
  | [d1, d2] => { results := [.lit (.bool false)], args := [d1, d2] }
  | _ => none }
def PrecClimbOnlyWrongFalsely : Prop := precClimbOnlyRow.holds Try.pinned (OpenSpec.ofChange precClimbOnlyWrong)

/-- 'parlkeep2.CycleMany': WHATEVER THE INPUT: true; the input reads as it did. -/
def cycleManySpec : ChangeSpec := { name := "cycleMany", fn := fun _ => fun
  | [d1, d2] => { results := [.lit (.bool true)], args := [d1, d2] }
  | _ => none }
def cycleManyRow : OpenClaim := { program := "ytkhmghobnocakaa", sum := "6fa5cc84e8ebe4decbf49b3f06d1cbcbe09b1c9784b62fc6e9978deb6237332e", func := "parlance/parlkeep2.CycleMany", spec := "cycleMany", unfollowed := true, recurses := true, plainKeys := false, apart := false }
def CycleManySaid : Prop := cycleManyRow.holds Try.pinned (OpenSpec.ofChange cycleManySpec)

/-- ITS FALSE NEIGHBOUR: 'it returns false'. Refute it at one input. -/
def cycleManyWrong : ChangeSpec := { name := "cycleMany", fn := fun _ => fun
  | [d1, d2] => { results := [.lit (.bool false)], args := [d1, d2] }
  | _ => none }
def CycleManyWrongFalsely : Prop := cycleManyRow.holds Try.pinned (OpenSpec.ofChange cycleManyWrong)

/-- 'parlkeep2.LeftrecCounts': WHATEVER THE INPUT: true; the input reads as it did. -/
def leftrecCountsSpec : ChangeSpec := { name := "leftrecCounts", fn := fun _ => fun
  | [d1, d2] => { results := [.lit (.bool true)], args := [d1, d2] }
  | _ => none }
def leftrecCountsRow : OpenClaim := { program := "ytkhmghobnocakaa", sum := "6fa5cc84e8ebe4decbf49b3f06d1cbcbe09b1c9784b62fc6e9978deb6237332e", func := "parlance/parlkeep2.LeftrecCounts", spec := "leftrecCounts", unfollowed := true, recurses := true, plainKeys := false, apart := false }
def LeftrecCountsSaid : Prop := leftrecCountsRow.holds Try.pinned (OpenSpec.ofChange leftrecCountsSpec)

/-- ITS FALSE NEIGHBOUR: 'it returns false'. Refute it at one input. -/
def leftrecCountsWrong : ChangeSpec := { name := "leftrecCounts", fn := fun _ => fun
  | [d1, d2] => { results := [.lit (.bool false)], args := [d1, d2] }
  | _ => none }
def LeftrecCountsWrongFalsely : Prop := leftrecCountsRow.holds Try.pinned (OpenSpec.ofChange leftrecCountsWrong)

/-- 'parlkeep2.LeftrecTrees': WHATEVER THE INPUT: true; the input reads as it did. -/
def leftrecTreesSpec : ChangeSpec := { name := "leftrecTrees", fn := fun _ => fun
  | [d1, d2] => { results := [.lit (.bool true)], args := [d1, d2] }
  | _ => none }
def leftrecTreesRow : OpenClaim := { program := "ytkhmghobnocakaa", sum := "6fa5cc84e8ebe4decbf49b3f06d1cbcbe09b1c9784b62fc6e9978deb6237332e", func := "parlance/parlkeep2.LeftrecTrees", spec := "leftrecTrees", unfollowed := true, recurses := true, plainKeys := false, apart := false }
def LeftrecTreesSaid : Prop := leftrecTreesRow.holds Try.pinned (OpenSpec.ofChange leftrecTreesSpec)

/-- ITS FALSE NEIGHBOUR: 'it returns false'. Refute it at one input. -/
def leftrecTreesWrong : ChangeSpec := { name := "leftrecTrees", fn := fun _ => fun
  | [d1, d2] => { results := [.lit (.bool false)], args := [d1, d2] }
  | _ => none }
def LeftrecTreesWrongFalsely : Prop := leftrecTreesRow.holds Try.pinned (OpenSpec.ofChange leftrecTreesWrong)

/-- 'parllaw2.PrecTrees': WHATEVER THE INPUT: true; the input reads as it did. -/
def precTreesSpec : ChangeSpec := { name := "precTrees", fn := fun _ => fun
  | [d1, d2, d3] => { results := [.lit (.bool true)], args := [d1, d2, d3] }
  | _ => none }
def precTreesRow : OpenClaim := { program := "ytkhmghobnocakaa", sum := "6fa5cc84e8ebe4decbf49b3f06d1cbcbe09b1c9784b62fc6e9978deb6237332e", func := "parlance/parllaw2.PrecTrees", spec := "precTrees", unfollowed := true, recurses := true, loops := true, plainKeys := false, apart := false }
def PrecTreesSaid : Prop := precTreesRow.holds Try.pinned (OpenSpec.ofChange precTreesSpec)

/-- ITS FALSE NEIGHBOUR: 'it returns false'. Refute it at one input. -/
def precTreesWrong : ChangeSpec := { name := "precTrees", fn := fun _ => fun
  | [d1, d2, d3] => { results := [.lit (.bool false)], args := [d1, d2, d3] }
  | _ => none }
def PrecTreesWrongFalsely : Prop := precTreesRow.holds Try.pinned (OpenSpec.ofChange precTreesWrong)

/-- 'parllaw2.PrecTables': WHATEVER THE INPUT: true; the input reads as it did. -/
def precTablesSpec : ChangeSpec := { name := "precTables", fn := fun _ => fun
  | [d] => { results := [.lit (.bool true)], args := [d] }
  | _ => none }
def precTablesRow : OpenClaim := { program := "ytkhmghobnocakaa", sum := "6fa5cc84e8ebe4decbf49b3f06d1cbcbe09b1c9784b62fc6e9978deb6237332e", func := "parlance/parllaw2.PrecTables", spec := "precTables", unfollowed := true, recurses := true, plainKeys := false, apart := false }
def PrecTablesSaid : Prop := precTablesRow.holds Try.pinned (OpenSpec.ofChange precTablesSpec)

/-- ITS FALSE NEIGHBOUR: 'it returns false'. Refute it at one input. -/
def precTablesWrong : ChangeSpec := { name := "precTables", fn := fun _ => fun
  | [d] => { results := [.lit (.bool false)], args := [d] }
  | _ => none }
def PrecTablesWrongFalsely : Prop := precTablesRow.holds Try.pinned (OpenSpec.ofChange precTablesWrong)

/-- 'parlkeep2.PrecAllowedOnly': WHATEVER THE INPUT: true; the input reads as it did. -/
def precAllowedOnlySpec : ChangeSpec := { name := "precAllowedOnly", fn := fun _ => fun
  | [d1, d2] => { results := [.lit (.bool true)], args := [d1, d2] }
  | _ => none }
def precAllowedOnlyRow : OpenClaim := { program := "ytkhmghobnocakaa", sum := "6fa5cc84e8ebe4decbf49b3f06d1cbcbe09b1c9784b62fc6e9978deb6237332e", func := "parlance/parlkeep2.PrecAllowedOnly", spec := "precAllowedOnly", unfollowed := true, recurses := true, plainKeys := false, apart := false }
def PrecAllowedOnlySaid : Prop := precAllowedOnlyRow.holds Try.pinned (OpenSpec.ofChange precAllowedOnlySpec)

/-- ITS FALSE NEIGHBOUR: 'it returns false'. Refute it at one input. -/
def precAllowedOnlyWrong : ChangeSpec := { name := "precAllowedOnly", fn := fun _ => fun
  | [d1, d2] => { results := [.lit (.bool false)], args := [d1, d2] }
  | _ => none }
def PrecAllowedOnlyWrongFalsely : Prop := precAllowedOnlyRow.holds Try.pinned (OpenSpec.ofChange precAllowedOnlyWrong)

/-- 'parlkeep2.GramSortedOnce': WHATEVER THE INPUT: true; the input reads as it did. -/
def gramSortedOnceSpec : ChangeSpec := { name := "gramSortedOnce", fn := fun _ => fun
  | [d] => { results := [.lit (.bool true)], args := [d] }
  | _ => none }
def gramSortedOnceRow : OpenClaim := { program := "ytkhmghobnocakaa", sum := "6fa5cc84e8ebe4decbf49b3f06d1cbcbe09b1c9784b62fc6e9978deb6237332e", func := "parlance/parlkeep2.GramSortedOnce", spec := "gramSortedOnce", unfollowed := true, recurses := true, plainKeys := false, apart := false }
def GramSortedOnceSaid : Prop := gramSortedOnceRow.holds Try.pinned (OpenSpec.ofChange gramSortedOnceSpec)

/-- ITS FALSE NEIGHBOUR: 'it returns false'. Refute it at one input. -/
def gramSortedOnceWrong : ChangeSpec := { name := "gramSortedOnce", fn := fun _ => fun
  | [d] => { results := [.lit (.bool false)], args := [d] }
  | _ => none }
def GramSortedOnceWrongFalsely : Prop := gramSortedOnceRow.holds Try.pinned (OpenSpec.ofChange gramSortedOnceWrong)

/-- 'parlkeep2.NormalForm': WHATEVER THE INPUT: true; the input reads as it did. -/
def normalFormSpec : ChangeSpec := { name := "normalForm", fn := fun _ => fun
  | [d] => { results := [.lit (.bool true)], args := [d] }
  | _ => none }
def normalFormRow : OpenClaim := { program := "ytkhmghobnocakaa", sum := "6fa5cc84e8ebe4decbf49b3f06d1cbcbe09b1c9784b62fc6e9978deb6237332e", func := "parlance/parlkeep2.NormalForm", spec := "normalForm", unfollowed := true, recurses := true, plainKeys := false, apart := false }
def NormalFormSaid : Prop := normalFormRow.holds Try.pinned (OpenSpec.ofChange normalFormSpec)

/-- ITS FALSE NEIGHBOUR: 'it returns false'. Refute it at one input. -/
def normalFormWrong : ChangeSpec := { name := "normalForm", fn := fun _ => fun
  | [d] => { results := [.lit (.bool false)], args := [d] }
  | _ => none }
def NormalFormWrongFalsely : Prop := normalFormRow.holds Try.pinned (OpenSpec.ofChange normalFormWrong)

/- THE SECOND FORM. 'bulk': how many values and letters a reading holds, each counted each time it is reached (what is shared counts as often as it is met; a slice's spare places count too). A statement '..UptoSaid' is the law's where the arguments, and the package variables that the reading takes, are together of bulk at most 1048576: NARROWER than '..Said'. Prove '..Said' where nothing that the law and all that it calls make is longer than what came in: it says more and counts as full. Else prove '..UptoSaid'. A law counts once. -/
mutual
def uptoBulk {H : Type} : DataW H → Nat
  | .lit (.string bytes) => bytes.length + 1
  | .lit _ => 1
  | .nil => 1
  | .ptr d => uptoBulk d + 1
  | .slice elems spare => uptoBulkAll elems + uptoBulkAll spare + 1
  | .agg parts => uptoBulkAll parts + 1
  | .iface _ d => uptoBulk d + 1
  | .map entries => uptoBulkEntries entries + 1
  | .held _ => 1
def uptoBulkAll {H : Type} : List (DataW H) → Nat
  | [] => 0
  | d :: r => uptoBulk d + uptoBulkAll r
def uptoBulkEntries {H : Type} : List (Lit × DataW H) → Nat
  | [] => 0
  | x :: r => uptoBulkEntry x + uptoBulkEntries r
def uptoBulkEntry {H : Type} : Lit × DataW H → Nat
  | (.string bytes, d) => bytes.length + uptoBulk d + 1
  | (_, d) => uptoBulk d + 1
 end
def uptoSmall : (H : Type) → List (DataW H) → Bool := fun _ ds => decide (uptoBulkAll ds ≤ 1048576)
def OpenSpec.upto (s : _root_.Go.ChangeSpec) : _root_.Go.OpenSpec := { _root_.Go.OpenSpec.ofChange s with cond := some uptoSmall }

/-- 'parlkeep2.UsefulOnce', WHERE WHAT IT READS IS OF BULK AT MOST 1048576: true; the input reads as it did. -/
def usefulOnceUptoRow : OpenClaim := { program := "ytkhmghobnocakaa", sum := "6fa5cc84e8ebe4decbf49b3f06d1cbcbe09b1c9784b62fc6e9978deb6237332e", func := "parlance/parlkeep2.UsefulOnce", spec := "usefulOnce", unfollowed := true, recurses := true, plainKeys := false, apart := false, narrowed := true }
def UsefulOnceUptoSaid : Prop := usefulOnceUptoRow.holds Try.pinned (OpenSpec.upto usefulOnceSpec)

/-- 'parlkeep2.PrecUnambiguous', WHERE WHAT IT READS IS OF BULK AT MOST 1048576: true; the input reads as it did. -/
def precUnambiguousUptoRow : OpenClaim := { program := "ytkhmghobnocakaa", sum := "6fa5cc84e8ebe4decbf49b3f06d1cbcbe09b1c9784b62fc6e9978deb6237332e", func := "parlance/parlkeep2.PrecUnambiguous", spec := "precUnambiguous", unfollowed := true, recurses := true, plainKeys := false, apart := false, narrowed := true }
def PrecUnambiguousUptoSaid : Prop := precUnambiguousUptoRow.holds Try.pinned (OpenSpec.upto precUnambiguousSpec)

/-- 'parlkeep2.PrecBackAllowed', WHERE WHAT IT READS IS OF BULK AT MOST 1048576: true; the input reads as it did. -/
def precBackAllowedUptoRow : OpenClaim := { program := "ytkhmghobnocakaa", sum := "6fa5cc84e8ebe4decbf49b3f06d1cbcbe09b1c9784b62fc6e9978deb6237332e", func := "parlance/parlkeep2.PrecBackAllowed", spec := "precBackAllowed", unfollowed := true, recurses := true, plainKeys := false, apart := false, narrowed := true }
def PrecBackAllowedUptoSaid : Prop := precBackAllowedUptoRow.holds Try.pinned (OpenSpec.upto precBackAllowedSpec)

/-- 'parlkeep2.PrecClimbOnly', WHERE WHAT IT READS IS OF BULK AT MOST 1048576: true; the input reads as it did. -/
def precClimbOnlyUptoRow : OpenClaim := { program := "ytkhmghobnocakaa", sum := "6fa5cc84e8ebe4decbf49b3f06d1cbcbe09b1c9784b62fc6e9978deb6237332e", func := "parlance/parlkeep2.PrecClimbOnly", spec := "precClimbOnly", unfollowed := true, recurses := true, plainKeys := false, apart := false, narrowed := true }
def PrecClimbOnlyUptoSaid : Prop := precClimbOnlyUptoRow.holds Try.pinned (OpenSpec.upto precClimbOnlySpec)

/-- 'parlkeep2.CycleMany', WHERE WHAT IT READS IS OF BULK AT MOST 1048576: true; the input reads as it did. -/
def cycleManyUptoRow : OpenClaim := { program := "ytkhmghobnocakaa", sum := "6fa5cc84e8ebe4decbf49b3f06d1cbcbe09b1c9784b62fc6e9978deb6237332e", func := "parlance/parlkeep2.CycleMany", spec := "cycleMany", unfollowed := true, recurses := true, plainKeys := false, apart := false, narrowed := true }
def CycleManyUptoSaid : Prop := cycleManyUptoRow.holds Try.pinned (OpenSpec.upto cycleManySpec)

/-- 'parlkeep2.LeftrecCounts', WHERE WHAT IT READS IS OF BULK AT MOST 1048576: true; the input reads as it did. -/
def leftrecCountsUptoRow : OpenClaim := { program := "ytkhmghobnocakaa", sum := "6fa5cc84e8ebe4decbf49b3f06d1cbcbe09b1c9784b62fc6e9978deb6237332e", func := "parlance/parlkeep2.LeftrecCounts", spec := "leftrecCounts", unfollowed := true, recurses := true, plainKeys := false, apart := false, narrowed := true }
def LeftrecCountsUptoSaid : Prop := leftrecCountsUptoRow.holds Try.pinned (OpenSpec.upto leftrecCountsSpec)

/-- 'parlkeep2.LeftrecTrees', WHERE WHAT IT READS IS OF BULK AT MOST 1048576: true; the input reads as it did. -/
def leftrecTreesUptoRow : OpenClaim := { program := "ytkhmghobnocakaa", sum := "6fa5cc84e8ebe4decbf49b3f06d1cbcbe09b1c9784b62fc6e9978deb6237332e", func := "parlance/parlkeep2.LeftrecTrees", spec := "leftrecTrees", unfollowed := true, recurses := true, plainKeys := false, apart := false, narrowed := true }
def LeftrecTreesUptoSaid : Prop := leftrecTreesUptoRow.holds Try.pinned (OpenSpec.upto leftrecTreesSpec)

/-- 'parllaw2.PrecTrees', WHERE WHAT IT READS IS OF BULK AT MOST 1048576: true; the input reads as it did. -/
def precTreesUptoRow : OpenClaim := { program := "ytkhmghobnocakaa", sum := "6fa5cc84e8ebe4decbf49b3f06d1cbcbe09b1c9784b62fc6e9978deb6237332e", func := "parlance/parllaw2.PrecTrees", spec := "precTrees", unfollowed := true, recurses := true, loops := true, plainKeys := false, apart := false, narrowed := true }
def PrecTreesUptoSaid : Prop := precTreesUptoRow.holds Try.pinned (OpenSpec.upto precTreesSpec)

/-- 'parllaw2.PrecTables', WHERE WHAT IT READS IS OF BULK AT MOST 1048576: true; the input reads as it did. -/
def precTablesUptoRow : OpenClaim := { program := "ytkhmghobnocakaa", sum := "6fa5cc84e8ebe4decbf49b3f06d1cbcbe09b1c9784b62fc6e9978deb6237332e", func := "parlance/parllaw2.PrecTables", spec := "precTables", unfollowed := true, recurses := true, plainKeys := false, apart := false, narrowed := true }
def PrecTablesUptoSaid : Prop := precTablesUptoRow.holds Try.pinned (OpenSpec.upto precTablesSpec)

/-- 'parlkeep2.PrecAllowedOnly', WHERE WHAT IT READS IS OF BULK AT MOST 1048576: true; the input reads as it did. -/
def precAllowedOnlyUptoRow : OpenClaim := { program := "ytkhmghobnocakaa", sum := "6fa5cc84e8ebe4decbf49b3f06d1cbcbe09b1c9784b62fc6e9978deb6237332e", func := "parlance/parlkeep2.PrecAllowedOnly", spec := "precAllowedOnly", unfollowed := true, recurses := true, plainKeys := false, apart := false, narrowed := true }
def PrecAllowedOnlyUptoSaid : Prop := precAllowedOnlyUptoRow.holds Try.pinned (OpenSpec.upto precAllowedOnlySpec)

/-- 'parlkeep2.GramSortedOnce', WHERE WHAT IT READS IS OF BULK AT MOST 1048576: true; the input reads as it did. -/
def gramSortedOnceUptoRow : OpenClaim := { program := "ytkhmghobnocakaa", sum := "6fa5cc84e8ebe4decbf49b3f06d1cbcbe09b1c9784b62fc6e9978deb6237332e", func := "parlance/parlkeep2.GramSortedOnce", spec := "gramSortedOnce", unfollowed := true, recurses := true, plainKeys := false, apart := false, narrowed := true }
def GramSortedOnceUptoSaid : Prop := gramSortedOnceUptoRow.holds Try.pinned (OpenSpec.upto gramSortedOnceSpec)

/-- 'parlkeep2.NormalForm', WHERE WHAT IT READS IS OF BULK AT MOST 1048576: true; the input reads as it did. -/
def normalFormUptoRow : OpenClaim := { program := "ytkhmghobnocakaa", sum := "6fa5cc84e8ebe4decbf49b3f06d1cbcbe09b1c9784b62fc6e9978deb6237332e", func := "parlance/parlkeep2.NormalForm", spec := "normalForm", unfollowed := true, recurses := true, plainKeys := false, apart := false, narrowed := true }
def NormalFormUptoSaid : Prop := normalFormUptoRow.holds Try.pinned (OpenSpec.upto normalFormSpec)

end Rows
end Go.Proofs.Ytkhmghobnocakaa
