/-
  No cell of these rows narrows 'for every input' (looked for: loops, veiled, ifaces, maps, wideKeys, modest, calm, conditions, laid).
  DERIVED. THE GIVEN ROWS OF THIS SEAT. 8 by the template 'for every input the law returns true; each argument reads behind the call as it read before'; 0 by the template 'total and deterministic' (their statements: YtcnkbjipogngaaaTotals.lean).
  GIVEN WITH THE SEED: the statements are not yours to turn. If you find one false, say at which input.
  Laid BY PROGRAM, IN A SANDBOX (cutbox-rows.mjs): the forced cells as the released guide's own fill.sh prints them over the translation 06583a2f05ca6a41… (all of the seat's roots in one cut). By AI agents, Wed Nov 11 2026. No macro, syntax, notation, axiom, sorry.
-/
import Derived.Test.YtcnkbjipogngaaaChecked
import GoSem.Claim
import GoSem.ClaimJoined
import GoSem.ClaimMapViews
import Derived.JoinedTies
import Derived.KernelRfl
namespace Go.Proofs.Ytcnkbjipogngaaa
/- THE CELL 'sum', in the pinned program and in every row, IS THE sha256 OF THE DUMP (.gsa) THAT YtcnkbjipogngaaaProg.lean LOADS. Nothing in Lean hashes anything: it is a label: what it is worth is what the hold of that sum in a sandbox is worth. -/
noncomputable def Try.pinned : Pinned := { name := "ytcnkbjipogngaaa", sum := "06583a2f05ca6a411d2c80d1a84181d1c84b42c6601e148880ee61611be7bc67", checked := Try.checked }
namespace Rows
def none {H : Type} : Left H := { results := [], args := [] }

/-- 'parlkeep2.GramSortedOnce': WHATEVER THE INPUT: true; the input reads as it did. -/
def gramSortedOnceSpec : ChangeSpec := { name := "gramSortedOnce", fn := fun _ => fun
  | [d] => { results := [.lit (.bool true)], args := [d] }
  | _ => none }
def gramSortedOnceRow : OpenClaim := { program := "ytcnkbjipogngaaa", sum := "06583a2f05ca6a411d2c80d1a84181d1c84b42c6601e148880ee61611be7bc67", func := "parlance/parlkeep2.GramSortedOnce", spec := "gramSortedOnce", unfollowed := true, recurses := true, plainKeys := false, apart := false }
def GramSortedOnceSaid : Prop := gramSortedOnceRow.holds Try.pinned (OpenSpec.ofChange gramSortedOnceSpec)

/-- ITS FALSE NEIGHBOUR: 'it returns false'. Refute it at one input. -/
def gramSortedOnceWrong : ChangeSpec := { name := "gramSortedOnce", fn := fun _ => fun
  | [d] => { results := [.lit (.bool false)], args := [d] }
  | _ => none }
def GramSortedOnceWrongFalsely : Prop := gramSortedOnceRow.holds Try.pinned (OpenSpec.ofChange gramSortedOnceWrong)

/-- 'parlkeep2.NormalForm': WHATEVER THE INPUT: true; the input reads as it did. -/
def normalFormSpec : ChangeSpec := { name := "normalForm", fn := fun _ => fun
  | [d] => { results := [.lit (.bool true)], args := [d] }
  | _ => none }
def normalFormRow : OpenClaim := { program := "ytcnkbjipogngaaa", sum := "06583a2f05ca6a411d2c80d1a84181d1c84b42c6601e148880ee61611be7bc67", func := "parlance/parlkeep2.NormalForm", spec := "normalForm", unfollowed := true, recurses := true, plainKeys := false, apart := false }
def NormalFormSaid : Prop := normalFormRow.holds Try.pinned (OpenSpec.ofChange normalFormSpec)

/-- ITS FALSE NEIGHBOUR: 'it returns false'. Refute it at one input. -/
def normalFormWrong : ChangeSpec := { name := "normalForm", fn := fun _ => fun
  | [d] => { results := [.lit (.bool false)], args := [d] }
  | _ => none }
def NormalFormWrongFalsely : Prop := normalFormRow.holds Try.pinned (OpenSpec.ofChange normalFormWrong)

/-- 'parlkeep2.NormalEmpty': WHATEVER THE INPUT: true; the input reads as it did. -/
def normalEmptySpec : ChangeSpec := { name := "normalEmpty", fn := fun _ => fun
  | [d] => { results := [.lit (.bool true)], args := [d] }
  | _ => none }
def normalEmptyRow : OpenClaim := { program := "ytcnkbjipogngaaa", sum := "06583a2f05ca6a411d2c80d1a84181d1c84b42c6601e148880ee61611be7bc67", func := "parlance/parlkeep2.NormalEmpty", spec := "normalEmpty", unfollowed := true, recurses := true, plainKeys := false, apart := false }
def NormalEmptySaid : Prop := normalEmptyRow.holds Try.pinned (OpenSpec.ofChange normalEmptySpec)

/-- ITS FALSE NEIGHBOUR: 'it returns false'. Refute it at one input. -/
def normalEmptyWrong : ChangeSpec := { name := "normalEmpty", fn := fun _ => fun
  | [d] => { results := [.lit (.bool false)], args := [d] }
  | _ => none }
def NormalEmptyWrongFalsely : Prop := normalEmptyRow.holds Try.pinned (OpenSpec.ofChange normalEmptyWrong)

/-- 'parlkeep2.NormalTrees': WHATEVER THE INPUT: true; the input reads as it did. -/
def normalTreesSpec : ChangeSpec := { name := "normalTrees", fn := fun _ => fun
  | [d1, d2] => { results := [.lit (.bool true)], args := [d1, d2] }
  | _ => none }
def normalTreesRow : OpenClaim := { program := "ytcnkbjipogngaaa", sum := "06583a2f05ca6a411d2c80d1a84181d1c84b42c6601e148880ee61611be7bc67", func := "parlance/parlkeep2.NormalTrees", spec := "normalTrees", unfollowed := true, recurses := true, plainKeys := false, apart := false }
def NormalTreesSaid : Prop := normalTreesRow.holds Try.pinned (OpenSpec.ofChange normalTreesSpec)

/-- ITS FALSE NEIGHBOUR: 'it returns false'. Refute it at one input. -/
def normalTreesWrong : ChangeSpec := { name := "normalTrees", fn := fun _ => fun
  | [d1, d2] => { results := [.lit (.bool false)], args := [d1, d2] }
  | _ => none }
def NormalTreesWrongFalsely : Prop := normalTreesRow.holds Try.pinned (OpenSpec.ofChange normalTreesWrong)

/-- 'parlkeep2.LayoutBack': WHATEVER THE INPUT: true; the input reads as it did. -/
def layoutBackSpec : ChangeSpec := { name := "layoutBack", fn := fun _ => fun
  | [d1, d2, d3] => { results := [.lit (.bool true)], args := [d1, d2, d3] }
  | _ => none }
def layoutBackRow : OpenClaim := { program := "ytcnkbjipogngaaa", sum := "06583a2f05ca6a411d2c80d1a84181d1c84b42c6601e148880ee61611be7bc67", func := "parlance/parlkeep2.LayoutBack", spec := "layoutBack", inPlace := ["internal/bytealg.IndexByteString", "internal/bytealg.IndexString", "internal/abi.NoEscape"], unfollowed := true, recurses := true, named := ["internal/bytealg.MaxLen"], plainKeys := false, apart := false }
def LayoutBackSaid : Prop := layoutBackRow.holds Try.pinned (OpenSpec.ofChange layoutBackSpec)

/-- ITS FALSE NEIGHBOUR: 'it returns false'. Refute it at one input. -/
def layoutBackWrong : ChangeSpec := { name := "layoutBack", fn := fun _ => fun
  | [d1, d2, d3] => { results := [.lit (.bool false)], args := [d1, d2, d3] }
  | _ => none }
def LayoutBackWrongFalsely : Prop := layoutBackRow.holds Try.pinned (OpenSpec.ofChange layoutBackWrong)

/-- 'parlkeep2.LinearBack': WHATEVER THE INPUT: true; the input reads as it did. -/
def linearBackSpec : ChangeSpec := { name := "linearBack", fn := fun _ => fun
  | [d] => { results := [.lit (.bool true)], args := [d] }
  | _ => none }
def linearBackRow : OpenClaim := { program := "ytcnkbjipogngaaa", sum := "06583a2f05ca6a411d2c80d1a84181d1c84b42c6601e148880ee61611be7bc67", func := "parlance/parlkeep2.LinearBack", spec := "linearBack", unfollowed := true, recurses := true, plainKeys := false, apart := false }
def LinearBackSaid : Prop := linearBackRow.holds Try.pinned (OpenSpec.ofChange linearBackSpec)

/-- ITS FALSE NEIGHBOUR: 'it returns false'. Refute it at one input. -/
def linearBackWrong : ChangeSpec := { name := "linearBack", fn := fun _ => fun
  | [d] => { results := [.lit (.bool false)], args := [d] }
  | _ => none }
def LinearBackWrongFalsely : Prop := linearBackRow.holds Try.pinned (OpenSpec.ofChange linearBackWrong)

/-- 'parlkeep2.LinearWords': WHATEVER THE INPUT: true; the input reads as it did. -/
def linearWordsSpec : ChangeSpec := { name := "linearWords", fn := fun _ => fun
  | [d1, d2] => { results := [.lit (.bool true)], args := [d1, d2] }
  | _ => none }
def linearWordsRow : OpenClaim := { program := "ytcnkbjipogngaaa", sum := "06583a2f05ca6a411d2c80d1a84181d1c84b42c6601e148880ee61611be7bc67", func := "parlance/parlkeep2.LinearWords", spec := "linearWords", unfollowed := true, recurses := true, plainKeys := false, apart := false }
def LinearWordsSaid : Prop := linearWordsRow.holds Try.pinned (OpenSpec.ofChange linearWordsSpec)

/-- ITS FALSE NEIGHBOUR: 'it returns false'. Refute it at one input. -/
def linearWordsWrong : ChangeSpec := { name := "linearWords", fn := fun _ => fun
  | [d1, d2] => { results := [.lit (.bool false)], args := [d1, d2] }
  | _ => none }
def LinearWordsWrongFalsely : Prop := linearWordsRow.holds Try.pinned (OpenSpec.ofChange linearWordsWrong)

/-- 'parlkeep2.PrecClimbOnly': WHATEVER THE INPUT: true; the input reads as it did. -/
def precClimbOnlySpec : ChangeSpec := { name := "precClimbOnly", fn := fun _ => fun
  | [d1, d2] => { results := [.lit (.bool true)], args := [d1, d2] }
  | _ => none }
def precClimbOnlyRow : OpenClaim := { program := "ytcnkbjipogngaaa", sum := "06583a2f05ca6a411d2c80d1a84181d1c84b42c6601e148880ee61611be7bc67", func := "parlance/parlkeep2.PrecClimbOnly", spec := "precClimbOnly", unfollowed := true, recurses := true, plainKeys := false, apart := false }
def PrecClimbOnlySaid : Prop := precClimbOnlyRow.holds Try.pinned (OpenSpec.ofChange precClimbOnlySpec)

/-- ITS FALSE NEIGHBOUR: 'it returns false'. Refute it at one input. -/
def precClimbOnlyWrong : ChangeSpec := { name := "precClimbOnly", fn := fun _ => fun
  | [d1, d2] => { results := [.lit (.bool false)], args := [d1, d2] }
  | _ => none }
def PrecClimbOnlyWrongFalsely : Prop := precClimbOnlyRow.holds Try.pinned (OpenSpec.ofChange precClimbOnlyWrong)

/- THE SECOND FORM. 'bulk': how many values and letters a reading holds, each counted each time it is reached (what is shared counts as often as it is met; a slice's spare places count too). A statement '..UptoSaid' is the law's where the arguments, and the package variables that the reading takes, are together of bulk at most 1048576: NARROWER than '..Said'. Prove '..Said' where nothing that the law and all that it calls make is longer than what came in: it says more and counts as full. Else prove '..UptoSaid'. A law counts once. -/
mutual
def uptoBulk {H : Type} : DataW H → Nat
  | .lit (.string bytes) => bytes.length + 1
  | .lit _ => 1
  | .nil => 1
  | .ptr d => uptoBulk d + 1
  | .slice elems spare => uptoBulkAll elems + uptoBulkAll spare + 1
  | .agg parts => uptoBulkAll parts + 1
  | .iface _ d => uptoBulk d + 1
  | .map entries => uptoBulkEntries entries + 1
  | .held _ => 1
def uptoBulkAll {H : Type} : List (DataW H) → Nat
  | [] => 0
  | d :: r => uptoBulk d + uptoBulkAll r
def uptoBulkEntries {H : Type} : List (Lit × DataW H) → Nat
  | [] => 0
  | x :: r => uptoBulkEntry x + uptoBulkEntries r
def uptoBulkEntry {H : Type} : Lit × DataW H → Nat
  | (.string bytes, d) => bytes.length + uptoBulk d + 1
  | (_, d) => uptoBulk d + 1
 end
def uptoSmall : (H : Type) → List (DataW H) → Bool := fun _ ds => decide (uptoBulkAll ds ≤ 1048576)
def OpenSpec.upto (s : _root_.Go.ChangeSpec) : _root_.Go.OpenSpec := { _root_.Go.OpenSpec.ofChange s with cond := some uptoSmall }

/-- 'parlkeep2.GramSortedOnce', WHERE WHAT IT READS IS OF BULK AT MOST 1048576: true; the input reads as it did. -/
def gramSortedOnceUptoRow : OpenClaim := { program := "ytcnkbjipogngaaa", sum := "06583a2f05ca6a411d2c80d1a84181d1c84b42c6601e148880ee61611be7bc67", func := "parlance/parlkeep2.GramSortedOnce", spec := "gramSortedOnce", unfollowed := true, recurses := true, plainKeys := false, apart := false, narrowed := true }
def GramSortedOnceUptoSaid : Prop := gramSortedOnceUptoRow.holds Try.pinned (OpenSpec.upto gramSortedOnceSpec)

/-- 'parlkeep2.NormalForm', WHERE WHAT IT READS IS OF BULK AT MOST 1048576: true; the input reads as it did. -/
def normalFormUptoRow : OpenClaim := { program := "ytcnkbjipogngaaa", sum := "06583a2f05ca6a411d2c80d1a84181d1c84b42c6601e148880ee61611be7bc67", func := "parlance/parlkeep2.NormalForm", spec := "normalForm", unfollowed := true, recurses := true, plainKeys := false, apart := false, narrowed := true }
def NormalFormUptoSaid : Prop := normalFormUptoRow.holds Try.pinned (OpenSpec.upto normalFormSpec)

/-- 'parlkeep2.NormalEmpty', WHERE WHAT IT READS IS OF BULK AT MOST 1048576: true; the input reads as it did. -/
def normalEmptyUptoRow : OpenClaim := { program := "ytcnkbjipogngaaa", sum := "06583a2f05ca6a411d2c80d1a84181d1c84b42c6601e148880ee61611be7bc67", func := "parlance/parlkeep2.NormalEmpty", spec := "normalEmpty", unfollowed := true, recurses := true, plainKeys := false, apart := false, narrowed := true }
def NormalEmptyUptoSaid : Prop := normalEmptyUptoRow.holds Try.pinned (OpenSpec.upto normalEmptySpec)

/-- 'parlkeep2.NormalTrees', WHERE WHAT IT READS IS OF BULK AT MOST 1048576: true; the input reads as it did. -/
def normalTreesUptoRow : OpenClaim := { program := "ytcnkbjipogngaaa", sum := "06583a2f05ca6a411d2c80d1a84181d1c84b42c6601e148880ee61611be7bc67", func := "parlance/parlkeep2.NormalTrees", spec := "normalTrees", unfollowed := true, recurses := true, plainKeys := false, apart := false, narrowed := true }
def NormalTreesUptoSaid : Prop := normalTreesUptoRow.holds Try.pinned (OpenSpec.upto normalTreesSpec)

/-- 'parlkeep2.LayoutBack', WHERE WHAT IT READS IS OF BULK AT MOST 1048576: true; the input reads as it did. -/
def layoutBackUptoRow : OpenClaim := { program := "ytcnkbjipogngaaa", sum := "06583a2f05ca6a411d2c80d1a84181d1c84b42c6601e148880ee61611be7bc67", func := "parlance/parlkeep2.LayoutBack", spec := "layoutBack", inPlace := ["internal/bytealg.IndexByteString", "internal/bytealg.IndexString", "internal/abi.NoEscape"], unfollowed := true, recurses := true, named := ["internal/bytealg.MaxLen"], plainKeys := false, apart := false, narrowed := true }
def LayoutBackUptoSaid : Prop := layoutBackUptoRow.holds Try.pinned (OpenSpec.upto layoutBackSpec)

/-- 'parlkeep2.LinearBack', WHERE WHAT IT READS IS OF BULK AT MOST 1048576: true; the input reads as it did. -/
def linearBackUptoRow : OpenClaim := { program := "ytcnkbjipogngaaa", sum := "06583a2f05ca6a411d2c80d1a84181d1c84b42c6601e148880ee61611be7bc67", func := "parlance/parlkeep2.LinearBack", spec := "linearBack", unfollowed := true, recurses := true, plainKeys := false, apart := false, narrowed := true }
def LinearBackUptoSaid : Prop := linearBackUptoRow.holds Try.pinned (OpenSpec.upto linearBackSpec)

/-- 'parlkeep2.LinearWords', WHERE WHAT IT READS IS OF BULK AT MOST 1048576: true; the input reads as it did. -/
def linearWordsUptoRow : OpenClaim := { program := "ytcnkbjipogngaaa", sum := "06583a2f05ca6a411d2c80d1a84181d1c84b42c6601e148880ee61611be7bc67", func := "parlance/parlkeep2.LinearWords", spec := "linearWords", unfollowed := true, recurses := true, plainKeys := false, apart := false, narrowed := true }
def LinearWordsUptoSaid : Prop := linearWordsUptoRow.holds Try.pinned (OpenSpec.upto linearWordsSpec)

/-- 'parlkeep2.PrecClimbOnly', WHERE WHAT IT READS IS OF BULK AT MOST 1048576: true; the input reads as it did. -/
def precClimbOnlyUptoRow : OpenClaim := { program := "ytcnkbjipogngaaa", sum := "06583a2f05ca6a411d2c80d1a84181d1c84b42c6601e148880ee61611be7bc67", func := "parlance/parlkeep2.PrecClimbOnly", spec := "precClimbOnly", unfollowed := true, recurses := true, plainKeys := false, apart := false, narrowed := true }
def PrecClimbOnlyUptoSaid : Prop := precClimbOnlyUptoRow.holds Try.pinned (OpenSpec.upto precClimbOnlySpec)

end Rows
end Go.Proofs.Ytcnkbjipogngaaa
