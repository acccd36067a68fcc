/-
  No cell of these rows narrows 'for every input' (looked for: loops, veiled, ifaces, maps, wideKeys, modest, calm, conditions, laid).
  DERIVED. THE GIVEN ROWS OF THIS SEAT. 7 by the template 'for every input the law returns true; each argument reads behind the call as it read before'; 0 by the template 'total and deterministic' (their statements: YtpgpognmdejdaaaTotals.lean).
  GIVEN WITH THE SEED: the statements are not yours to turn. If you find one false, say at which input.
  Laid BY PROGRAM, IN A SANDBOX (cutbox-rows.mjs): the forced cells as the released guide's own fill.sh prints them over the translation 612acd483731680e… (all of the seat's roots in one cut). By AI agents, Wed Nov 11 2026. No macro, syntax, notation, axiom, sorry.
-/
import Derived.Test.YtpgpognmdejdaaaChecked
import GoSem.Claim
import GoSem.ClaimJoined
import GoSem.ClaimMapViews
import Derived.JoinedTies
import Derived.KernelRfl
namespace Go.Proofs.Ytpgpognmdejdaaa
/- THE CELL 'sum', in the pinned program and in every row, IS THE sha256 OF THE DUMP (.gsa) THAT YtpgpognmdejdaaaProg.lean LOADS. Nothing in Lean hashes anything: it is a label: what it is worth is what the hold of that sum in a sandbox is worth. -/
noncomputable def Try.pinned : Pinned := { name := "ytpgpognmdejdaaa", sum := "612acd483731680eaac1b31b9592ea45e175cd93c822dd9cb4d077553444a2cf", checked := Try.checked }
namespace Rows
def none {H : Type} : Left H := { results := [], args := [] }

/-- 'parlkeep2.LayoutWellFormed': WHATEVER THE INPUT: true; the input reads as it did. -/
def layoutWellFormedSpec : ChangeSpec := { name := "layoutWellFormed", fn := fun _ => fun
  | [d1, d2, d3] => { results := [.lit (.bool true)], args := [d1, d2, d3] }
  | _ => none }
def layoutWellFormedRow : OpenClaim := { program := "ytpgpognmdejdaaa", sum := "612acd483731680eaac1b31b9592ea45e175cd93c822dd9cb4d077553444a2cf", func := "parlance/parlkeep2.LayoutWellFormed", spec := "layoutWellFormed", apart := false }
def LayoutWellFormedSaid : Prop := layoutWellFormedRow.holds Try.pinned (OpenSpec.ofChange layoutWellFormedSpec)

/-- ITS FALSE NEIGHBOUR: 'it returns false'. Refute it at one input. -/
def layoutWellFormedWrong : ChangeSpec := { name := "layoutWellFormed", fn := fun _ => fun
  | [d1, d2, d3] => { results := [.lit (.bool false)], args := [d1, d2, d3] }
  | _ => none }
def LayoutWellFormedWrongFalsely : Prop := layoutWellFormedRow.holds Try.pinned (OpenSpec.ofChange layoutWellFormedWrong)

/-- 'parllaw2.PrecClimbs': WHATEVER THE INPUT: true; the input reads as it did. -/
def precClimbsSpec : ChangeSpec := { name := "precClimbs", fn := fun _ => fun
  | [d1, d2] => { results := [.lit (.bool true)], args := [d1, d2] }
  | _ => none }
def precClimbsRow : OpenClaim := { program := "ytpgpognmdejdaaa", sum := "612acd483731680eaac1b31b9592ea45e175cd93c822dd9cb4d077553444a2cf", func := "parlance/parllaw2.PrecClimbs", spec := "precClimbs", unfollowed := true, recurses := true, apart := false }
def PrecClimbsSaid : Prop := precClimbsRow.holds Try.pinned (OpenSpec.ofChange precClimbsSpec)

/-- ITS FALSE NEIGHBOUR: 'it returns false'. Refute it at one input. -/
def precClimbsWrong : ChangeSpec := { name := "precClimbs", fn := fun _ => fun
  | [d1, d2] => { results := [.lit (.bool false)], args := [d1, d2] }
  | _ => none }
def PrecClimbsWrongFalsely : Prop := precClimbsRow.holds Try.pinned (OpenSpec.ofChange precClimbsWrong)

/-- 'parlkeep2.LayoutBack': WHATEVER THE INPUT: true; the input reads as it did. -/
def layoutBackSpec : ChangeSpec := { name := "layoutBack", fn := fun _ => fun
  | [d1, d2, d3] => { results := [.lit (.bool true)], args := [d1, d2, d3] }
  | _ => none }
def layoutBackRow : OpenClaim := { program := "ytpgpognmdejdaaa", sum := "612acd483731680eaac1b31b9592ea45e175cd93c822dd9cb4d077553444a2cf", func := "parlance/parlkeep2.LayoutBack", spec := "layoutBack", inPlace := ["internal/bytealg.IndexByteString", "internal/bytealg.IndexString", "internal/abi.NoEscape"], unfollowed := true, recurses := true, named := ["internal/bytealg.MaxLen"], apart := false }
def LayoutBackSaid : Prop := layoutBackRow.holds Try.pinned (OpenSpec.ofChange layoutBackSpec)

/-- ITS FALSE NEIGHBOUR: 'it returns false'. Refute it at one input. -/
def layoutBackWrong : ChangeSpec := { name := "layoutBack", fn := fun _ => fun
  | [d1, d2, d3] => { results := [.lit (.bool false)], args := [d1, d2, d3] }
  | _ => none }
def LayoutBackWrongFalsely : Prop := layoutBackRow.holds Try.pinned (OpenSpec.ofChange layoutBackWrong)

/-- 'parlkeep2.GramSortedOnce': WHATEVER THE INPUT: true; the input reads as it did. -/
def gramSortedOnceSpec : ChangeSpec := { name := "gramSortedOnce", fn := fun _ => fun
  | [d] => { results := [.lit (.bool true)], args := [d] }
  | _ => none }
def gramSortedOnceRow : OpenClaim := { program := "ytpgpognmdejdaaa", sum := "612acd483731680eaac1b31b9592ea45e175cd93c822dd9cb4d077553444a2cf", func := "parlance/parlkeep2.GramSortedOnce", spec := "gramSortedOnce", unfollowed := true, recurses := true, apart := false }
def GramSortedOnceSaid : Prop := gramSortedOnceRow.holds Try.pinned (OpenSpec.ofChange gramSortedOnceSpec)

/-- ITS FALSE NEIGHBOUR: 'it returns false'. Refute it at one input. -/
def gramSortedOnceWrong : ChangeSpec := { name := "gramSortedOnce", fn := fun _ => fun
  | [d] => { results := [.lit (.bool false)], args := [d] }
  | _ => none }
def GramSortedOnceWrongFalsely : Prop := gramSortedOnceRow.holds Try.pinned (OpenSpec.ofChange gramSortedOnceWrong)

/-- 'parlkeep2.NormalForm': WHATEVER THE INPUT: true; the input reads as it did. -/
def normalFormSpec : ChangeSpec := { name := "normalForm", fn := fun _ => fun
  | [d] => { results := [.lit (.bool true)], args := [d] }
  | _ => none }
def normalFormRow : OpenClaim := { program := "ytpgpognmdejdaaa", sum := "612acd483731680eaac1b31b9592ea45e175cd93c822dd9cb4d077553444a2cf", func := "parlance/parlkeep2.NormalForm", spec := "normalForm", unfollowed := true, recurses := true, apart := false }
def NormalFormSaid : Prop := normalFormRow.holds Try.pinned (OpenSpec.ofChange normalFormSpec)

/-- ITS FALSE NEIGHBOUR: 'it returns false'. Refute it at one input. -/
def normalFormWrong : ChangeSpec := { name := "normalForm", fn := fun _ => fun
  | [d] => { results := [.lit (.bool false)], args := [d] }
  | _ => none }
def NormalFormWrongFalsely : Prop := normalFormRow.holds Try.pinned (OpenSpec.ofChange normalFormWrong)

/-- 'parlkeep2.NormalEmpty': WHATEVER THE INPUT: true; the input reads as it did. -/
def normalEmptySpec : ChangeSpec := { name := "normalEmpty", fn := fun _ => fun
  | [d] => { results := [.lit (.bool true)], args := [d] }
  | _ => none }
def normalEmptyRow : OpenClaim := { program := "ytpgpognmdejdaaa", sum := "612acd483731680eaac1b31b9592ea45e175cd93c822dd9cb4d077553444a2cf", func := "parlance/parlkeep2.NormalEmpty", spec := "normalEmpty", unfollowed := true, recurses := true, apart := false }
def NormalEmptySaid : Prop := normalEmptyRow.holds Try.pinned (OpenSpec.ofChange normalEmptySpec)

/-- ITS FALSE NEIGHBOUR: 'it returns false'. Refute it at one input. -/
def normalEmptyWrong : ChangeSpec := { name := "normalEmpty", fn := fun _ => fun
  | [d] => { results := [.lit (.bool false)], args := [d] }
  | _ => none }
def NormalEmptyWrongFalsely : Prop := normalEmptyRow.holds Try.pinned (OpenSpec.ofChange normalEmptyWrong)

/-- 'parlkeep2.NormalTrees': WHATEVER THE INPUT: true; the input reads as it did. -/
def normalTreesSpec : ChangeSpec := { name := "normalTrees", fn := fun _ => fun
  | [d1, d2] => { results := [.lit (.bool true)], args := [d1, d2] }
  | _ => none }
def normalTreesRow : OpenClaim := { program := "ytpgpognmdejdaaa", sum := "612acd483731680eaac1b31b9592ea45e175cd93c822dd9cb4d077553444a2cf", func := "parlance/parlkeep2.NormalTrees", spec := "normalTrees", unfollowed := true, recurses := true, apart := false }
def NormalTreesSaid : Prop := normalTreesRow.holds Try.pinned (OpenSpec.ofChange normalTreesSpec)

/-- ITS FALSE NEIGHBOUR: 'it returns false'. Refute it at one input. -/
def normalTreesWrong : ChangeSpec := { name := "normalTrees", fn := fun _ => fun
  | [d1, d2] => { results := [.lit (.bool false)], args := [d1, d2] }
  | _ => none }
def NormalTreesWrongFalsely : Prop := normalTreesRow.holds Try.pinned (OpenSpec.ofChange normalTreesWrong)

/- THE SECOND FORM. 'bulk': how many values and letters a reading holds, each counted each time it is reached (what is shared counts as often as it is met; a slice's spare places count too). A statement '..UptoSaid' is the law's where the arguments, and the package variables that the reading takes, are together of bulk at most 1048576: NARROWER than '..Said'. Prove '..Said' where nothing that the law and all that it calls make is longer than what came in: it says more and counts as full. Else prove '..UptoSaid'. A law counts once. -/
mutual
def uptoBulk {H : Type} : DataW H → Nat
  | .lit (.string bytes) => bytes.length + 1
  | .lit _ => 1
  | .nil => 1
  | .ptr d => uptoBulk d + 1
  | .slice elems spare => uptoBulkAll elems + uptoBulkAll spare + 1
  | .agg parts => uptoBulkAll parts + 1
  | .iface _ d => uptoBulk d + 1
  | .map entries => uptoBulkEntries entries + 1
  | .held _ => 1
def uptoBulkAll {H : Type} : List (DataW H) → Nat
  | [] => 0
  | d :: r => uptoBulk d + uptoBulkAll r
def uptoBulkEntries {H : Type} : List (Lit × DataW H) → Nat
  | [] => 0
  | x :: r => uptoBulkEntry x + uptoBulkEntries r
def uptoBulkEntry {H : Type} : Lit × DataW H → Nat
  | (.string bytes, d) => bytes.length + uptoBulk d + 1
  | (_, d) => uptoBulk d + 1
 end
def uptoSmall : (H : Type) → List (DataW H) → Bool := fun _ ds => decide (uptoBulkAll ds ≤ 1048576)
def OpenSpec.upto (s : _root_.Go.ChangeSpec) : _root_.Go.OpenSpec := { _root_.Go.OpenSpec.ofChange s with cond := some uptoSmall }

/-- 'parlkeep2.LayoutWellFormed', WHERE WHAT IT READS IS OF BULK AT MOST 1048576: true; the input reads as it did. -/
def layoutWellFormedUptoRow : OpenClaim := { program := "ytpgpognmdejdaaa", sum := "612acd483731680eaac1b31b9592ea45e175cd93c822dd9cb4d077553444a2cf", func := "parlance/parlkeep2.LayoutWellFormed", spec := "layoutWellFormed", apart := false, narrowed := true }
def LayoutWellFormedUptoSaid : Prop := layoutWellFormedUptoRow.holds Try.pinned (OpenSpec.upto layoutWellFormedSpec)

/-- 'parllaw2.PrecClimbs', WHERE WHAT IT READS IS OF BULK AT MOST 1048576: true; the input reads as it did. -/
def precClimbsUptoRow : OpenClaim := { program := "ytpgpognmdejdaaa", sum := "612acd483731680eaac1b31b9592ea45e175cd93c822dd9cb4d077553444a2cf", func := "parlance/parllaw2.PrecClimbs", spec := "precClimbs", unfollowed := true, recurses := true, apart := false, narrowed := true }
def PrecClimbsUptoSaid : Prop := precClimbsUptoRow.holds Try.pinned (OpenSpec.upto precClimbsSpec)

/-- 'parlkeep2.LayoutBack', WHERE WHAT IT READS IS OF BULK AT MOST 1048576: true; the input reads as it did. -/
def layoutBackUptoRow : OpenClaim := { program := "ytpgpognmdejdaaa", sum := "612acd483731680eaac1b31b9592ea45e175cd93c822dd9cb4d077553444a2cf", func := "parlance/parlkeep2.LayoutBack", spec := "layoutBack", inPlace := ["internal/bytealg.IndexByteString", "internal/bytealg.IndexString", "internal/abi.NoEscape"], unfollowed := true, recurses := true, named := ["internal/bytealg.MaxLen"], apart := false, narrowed := true }
def LayoutBackUptoSaid : Prop := layoutBackUptoRow.holds Try.pinned (OpenSpec.upto layoutBackSpec)

/-- 'parlkeep2.GramSortedOnce', WHERE WHAT IT READS IS OF BULK AT MOST 1048576: true; the input reads as it did. -/
def gramSortedOnceUptoRow : OpenClaim := { program := "ytpgpognmdejdaaa", sum := "612acd483731680eaac1b31b9592ea45e175cd93c822dd9cb4d077553444a2cf", func := "parlance/parlkeep2.GramSortedOnce", spec := "gramSortedOnce", unfollowed := true, recurses := true, apart := false, narrowed := true }
def GramSortedOnceUptoSaid : Prop := gramSortedOnceUptoRow.holds Try.pinned (OpenSpec.upto gramSortedOnceSpec)

/-- 'parlkeep2.NormalForm', WHERE WHAT IT READS IS OF BULK AT MOST 1048576: true; the input reads as it did. -/
def normalFormUptoRow : OpenClaim := { program := "ytpgpognmdejdaaa", sum := "612acd483731680eaac1b31b9592ea45e175cd93c822dd9cb4d077553444a2cf", func := "parlance/parlkeep2.NormalForm", spec := "normalForm", unfollowed := true, recurses := true, apart := false, narrowed := true }
def NormalFormUptoSaid : Prop := normalFormUptoRow.holds Try.pinned (OpenSpec.upto normalFormSpec)

/-- 'parlkeep2.NormalEmpty', WHERE WHAT IT READS IS OF BULK AT MOST 1048576: true; the input reads as it did. -/
def normalEmptyUptoRow : OpenClaim := { program := "ytpgpognmdejdaaa", sum := "612acd483731680eaac1b31b9592ea45e175cd93c822dd9cb4d077553444a2cf", func := "parlance/parlkeep2.NormalEmpty", spec := "normalEmpty", unfollowed := true, recurses := true, apart := false, narrowed := true }
def NormalEmptyUptoSaid : Prop := normalEmptyUptoRow.holds Try.pinned (OpenSpec.upto normalEmptySpec)

/-- 'parlkeep2.NormalTrees', WHERE WHAT IT READS IS OF BULK AT MOST 1048576: true; the input reads as it did. -/
def normalTreesUptoRow : OpenClaim := { program := "ytpgpognmdejdaaa", sum := "612acd483731680eaac1b31b9592ea45e175cd93c822dd9cb4d077553444a2cf", func := "parlance/parlkeep2.NormalTrees", spec := "normalTrees", unfollowed := true, recurses := true, apart := false, narrowed := true }
def NormalTreesUptoSaid : Prop := normalTreesUptoRow.holds Try.pinned (OpenSpec.upto normalTreesSpec)

end Rows
end Go.Proofs.Ytpgpognmdejdaaa
