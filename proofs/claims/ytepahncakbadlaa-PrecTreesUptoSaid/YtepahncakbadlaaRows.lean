/-
  NARROWER THAN 'FOR EVERY INPUT', by the rows' own cells (each row's printed sentence says how): PrecTrees: loops.
  DERIVED. THE GIVEN ROWS OF THIS SEAT. 11 by the template 'for every input the law returns true; each argument reads behind the call as it read before'; 0 by the template 'total and deterministic' (their statements: YtepahncakbadlaaTotals.lean).
  GIVEN WITH THE SEED: the statements are not yours to turn. If you find one false, say at which input.
  Laid BY PROGRAM, IN A SANDBOX (cutbox-rows.mjs): the forced cells as the released guide's own fill.sh prints them over the translation e5088f01ce2d8eaf… (all of the seat's roots in one cut). By AI agents, Wed Nov 11 2026. No macro, syntax, notation, axiom, sorry.
-/
import Derived.Test.YtepahncakbadlaaChecked
import GoSem.Claim
import GoSem.ClaimJoined
import GoSem.ClaimMapViews
import Derived.JoinedTies
import Derived.KernelRfl
namespace Go.Proofs.Ytepahncakbadlaa
/- THE CELL 'sum', in the pinned program and in every row, IS THE sha256 OF THE DUMP (.gsa) THAT YtepahncakbadlaaProg.lean LOADS. Nothing in Lean hashes anything: it is a label: what it is worth is what the hold of that sum in a sandbox is worth. -/
noncomputable def Try.pinned : Pinned := { name := "ytepahncakbadlaa", sum := "e5088f01ce2d8eafe3b6c7cd8b8e676b51b3ecfd180cb044720999815dd6291f", checked := Try.checked }
namespace Rows
def none {H : Type} : Left H := { results := [], args := [] }

/-- 'parlkeep2.ClosedUnion': WHATEVER THE INPUT: true; the input reads as it did. -/
def closedUnionSpec : ChangeSpec := { name := "closedUnion", fn := fun _ => fun
  | [d1, d2, d3] => { results := [.lit (.bool true)], args := [d1, d2, d3] }
  | _ => none }
def closedUnionRow : OpenClaim := { program := "ytepahncakbadlaa", sum := "e5088f01ce2d8eafe3b6c7cd8b8e676b51b3ecfd180cb044720999815dd6291f", func := "parlance/parlkeep2.ClosedUnion", spec := "closedUnion", unfollowed := true, recurses := true, plainKeys := false, apart := false }
def ClosedUnionSaid : Prop := closedUnionRow.holds Try.pinned (OpenSpec.ofChange closedUnionSpec)

/-- ITS FALSE NEIGHBOUR: 'it returns false'. Refute it at one input. -/
def closedUnionWrong : ChangeSpec := { name := "closedUnion", fn := fun _ => fun
  | [d1, d2, d3] => { results := [.lit (.bool false)], args := [d1, d2, d3] }
  | _ => none }
def ClosedUnionWrongFalsely : Prop := closedUnionRow.holds Try.pinned (OpenSpec.ofChange closedUnionWrong)

/-- 'parlkeep2.GramTreesHaveMeaning': WHATEVER THE INPUT: true; the input reads as it did. -/
def gramTreesHaveMeaningSpec : ChangeSpec := { name := "gramTreesHaveMeaning", fn := fun _ => fun
  | [d1, d2] => { results := [.lit (.bool true)], args := [d1, d2] }
  | _ => none }
def gramTreesHaveMeaningRow : OpenClaim := { program := "ytepahncakbadlaa", sum := "e5088f01ce2d8eafe3b6c7cd8b8e676b51b3ecfd180cb044720999815dd6291f", func := "parlance/parlkeep2.GramTreesHaveMeaning", spec := "gramTreesHaveMeaning", unfollowed := true, recurses := true, plainKeys := false, apart := false }
def GramTreesHaveMeaningSaid : Prop := gramTreesHaveMeaningRow.holds Try.pinned (OpenSpec.ofChange gramTreesHaveMeaningSpec)

/-- ITS FALSE NEIGHBOUR: 'it returns false'. Refute it at one input. -/
def gramTreesHaveMeaningWrong : ChangeSpec := { name := "gramTreesHaveMeaning", fn := fun _ => fun
  | [d1, d2] => { results := [.lit (.bool false)], args := [d1, d2] }
  | _ => none }
def GramTreesHaveMeaningWrongFalsely : Prop := gramTreesHaveMeaningRow.holds Try.pinned (OpenSpec.ofChange gramTreesHaveMeaningWrong)

/-- 'parlkeep2.UsefulOnce': WHATEVER THE INPUT: true; the input reads as it did. -/
def usefulOnceSpec : ChangeSpec := { name := "usefulOnce", fn := fun _ => fun
  | [d] => { results := [.lit (.bool true)], args := [d] }
  | _ => none }
def usefulOnceRow : OpenClaim := { program := "ytepahncakbadlaa", sum := "e5088f01ce2d8eafe3b6c7cd8b8e676b51b3ecfd180cb044720999815dd6291f", func := "parlance/parlkeep2.UsefulOnce", spec := "usefulOnce", unfollowed := true, recurses := true, plainKeys := false, apart := false }
def UsefulOnceSaid : Prop := usefulOnceRow.holds Try.pinned (OpenSpec.ofChange usefulOnceSpec)

/-- ITS FALSE NEIGHBOUR: 'it returns false'. Refute it at one input. -/
def usefulOnceWrong : ChangeSpec := { name := "usefulOnce", fn := fun _ => fun
  | [d] => { results := [.lit (.bool false)], args := [d] }
  | _ => none }
def UsefulOnceWrongFalsely : Prop := usefulOnceRow.holds Try.pinned (OpenSpec.ofChange usefulOnceWrong)

/-- 'parlkeep2.UsefulLeastWords': WHATEVER THE INPUT: true; the input reads as it did. -/
def usefulLeastWordsSpec : ChangeSpec := { name := "usefulLeastWords", fn := fun _ => fun
  | [d1, d2] => { results := [.lit (.bool true)], args := [d1, d2] }
  | _ => none }
def usefulLeastWordsRow : OpenClaim := { program := "ytepahncakbadlaa", sum := "e5088f01ce2d8eafe3b6c7cd8b8e676b51b3ecfd180cb044720999815dd6291f", func := "parlance/parlkeep2.UsefulLeastWords", spec := "usefulLeastWords", unfollowed := true, recurses := true, plainKeys := false, apart := false }
def UsefulLeastWordsSaid : Prop := usefulLeastWordsRow.holds Try.pinned (OpenSpec.ofChange usefulLeastWordsSpec)

/-- ITS FALSE NEIGHBOUR: 'it returns false'. Refute it at one input. -/
def usefulLeastWordsWrong : ChangeSpec := { name := "usefulLeastWords", fn := fun _ => fun
  | [d1, d2] => { results := [.lit (.bool false)], args := [d1, d2] }
  | _ => none }
def UsefulLeastWordsWrongFalsely : Prop := usefulLeastWordsRow.holds Try.pinned (OpenSpec.ofChange usefulLeastWordsWrong)

/-- 'parllaw2.PrecTrees': WHATEVER THE INPUT: true; the input reads as it did. -/
def precTreesSpec : ChangeSpec := { name := "precTrees", fn := fun _ => fun
  | [d1, d2, d3] => { results := [.lit (.bool true)], args := [d1, d2, d3] }
  | _ => none }
def precTreesRow : OpenClaim := { program := "ytepahncakbadlaa", sum := "e5088f01ce2d8eafe3b6c7cd8b8e676b51b3ecfd180cb044720999815dd6291f", func := "parlance/parllaw2.PrecTrees", spec := "precTrees", unfollowed := true, recurses := true, loops := true, plainKeys := false, apart := false }
def PrecTreesSaid : Prop := precTreesRow.holds Try.pinned (OpenSpec.ofChange precTreesSpec)

/-- ITS FALSE NEIGHBOUR: 'it returns false'. Refute it at one input. -/
def precTreesWrong : ChangeSpec := { name := "precTrees", fn := fun _ => fun
  | [d1, d2, d3] => { results := [.lit (.bool false)], args := [d1, d2, d3] }
  | _ => none }
def PrecTreesWrongFalsely : Prop := precTreesRow.holds Try.pinned (OpenSpec.ofChange precTreesWrong)

/-- 'parltop.Names': WHATEVER THE INPUT: true; the input reads as it did. -/
def namesSpec : ChangeSpec := { name := "names", fn := fun _ => fun
  | [] => { results := [.lit (.bool true)], args := [] }
  | _ => none }
def namesRow : OpenClaim := { program := "ytepahncakbadlaa", sum := "e5088f01ce2d8eafe3b6c7cd8b8e676b51b3ecfd180cb044720999815dd6291f", func := "parlance/parltop.Names", spec := "names", plainKeys := false, apart := false }
def NamesSaid : Prop := namesRow.holds Try.pinned (OpenSpec.ofChange namesSpec)

/-- ITS FALSE NEIGHBOUR: 'it returns false'. Refute it at one input. -/
def namesWrong : ChangeSpec := { name := "names", fn := fun _ => fun
  | [] => { results := [.lit (.bool false)], args := [] }
  | _ => none }
def NamesWrongFalsely : Prop := namesRow.holds Try.pinned (OpenSpec.ofChange namesWrong)

/-- 'parlkeep2.FirstFollows': WHATEVER THE INPUT: true; the input reads as it did. -/
def firstFollowsSpec : ChangeSpec := { name := "firstFollows", fn := fun _ => fun
  | [d1, d2] => { results := [.lit (.bool true)], args := [d1, d2] }
  | _ => none }
def firstFollowsRow : OpenClaim := { program := "ytepahncakbadlaa", sum := "e5088f01ce2d8eafe3b6c7cd8b8e676b51b3ecfd180cb044720999815dd6291f", func := "parlance/parlkeep2.FirstFollows", spec := "firstFollows", unfollowed := true, recurses := true, plainKeys := false, apart := false }
def FirstFollowsSaid : Prop := firstFollowsRow.holds Try.pinned (OpenSpec.ofChange firstFollowsSpec)

/-- ITS FALSE NEIGHBOUR: 'it returns false'. Refute it at one input. -/
def firstFollowsWrong : ChangeSpec := { name := "firstFollows", fn := fun _ => fun
  | [d1, d2] => { results := [.lit (.bool false)], args := [d1, d2] }
  | _ => none }
def FirstFollowsWrongFalsely : Prop := firstFollowsRow.holds Try.pinned (OpenSpec.ofChange firstFollowsWrong)

/-- 'parlkeep2.FactorForm': WHATEVER THE INPUT: true; the input reads as it did. -/
def factorFormSpec : ChangeSpec := { name := "factorForm", fn := fun _ => fun
  | [d] => { results := [.lit (.bool true)], args := [d] }
  | _ => none }
def factorFormRow : OpenClaim := { program := "ytepahncakbadlaa", sum := "e5088f01ce2d8eafe3b6c7cd8b8e676b51b3ecfd180cb044720999815dd6291f", func := "parlance/parlkeep2.FactorForm", spec := "factorForm", unfollowed := true, recurses := true, plainKeys := false, apart := false }
def FactorFormSaid : Prop := factorFormRow.holds Try.pinned (OpenSpec.ofChange factorFormSpec)

/-- ITS FALSE NEIGHBOUR: 'it returns false'. Refute it at one input. -/
def factorFormWrong : ChangeSpec := { name := "factorForm", fn := fun _ => fun
  | [d] => { results := [.lit (.bool false)], args := [d] }
  | _ => none }
def FactorFormWrongFalsely : Prop := factorFormRow.holds Try.pinned (OpenSpec.ofChange factorFormWrong)

/-- 'parlkeep2.ClosedPut': WHATEVER THE INPUT: true; the input reads as it did. -/
def closedPutSpec : ChangeSpec := { name := "closedPut", fn := fun _ => fun
  | [d1, d2, d3, d4, d5] => { results := [.lit (.bool true)], args := [d1, d2, d3, d4, d5] }
  | _ => none }
def closedPutRow : OpenClaim := { program := "ytepahncakbadlaa", sum := "e5088f01ce2d8eafe3b6c7cd8b8e676b51b3ecfd180cb044720999815dd6291f", func := "parlance/parlkeep2.ClosedPut", spec := "closedPut", unfollowed := true, recurses := true, plainKeys := false, apart := false }
def ClosedPutSaid : Prop := closedPutRow.holds Try.pinned (OpenSpec.ofChange closedPutSpec)

/-- ITS FALSE NEIGHBOUR: 'it returns false'. Refute it at one input. -/
def closedPutWrong : ChangeSpec := { name := "closedPut", fn := fun _ => fun
  | [d1, d2, d3, d4, d5] => { results := [.lit (.bool false)], args := [d1, d2, d3, d4, d5] }
  | _ => none }
def ClosedPutWrongFalsely : Prop := closedPutRow.holds Try.pinned (OpenSpec.ofChange closedPutWrong)

/-- 'parlkeep2.FirstWords': WHATEVER THE INPUT: true; the input reads as it did. -/
def firstWordsSpec : ChangeSpec := { name := "firstWords", fn := fun _ => fun
  | [d1, d2] => { results := [.lit (.bool true)], args := [d1, d2] }
  | _ => none }
def firstWordsRow : OpenClaim := { program := "ytepahncakbadlaa", sum := "e5088f01ce2d8eafe3b6c7cd8b8e676b51b3ecfd180cb044720999815dd6291f", func := "parlance/parlkeep2.FirstWords", spec := "firstWords", unfollowed := true, recurses := true, plainKeys := false, apart := false }
def FirstWordsSaid : Prop := firstWordsRow.holds Try.pinned (OpenSpec.ofChange firstWordsSpec)

/-- ITS FALSE NEIGHBOUR: 'it returns false'. Refute it at one input. -/
def firstWordsWrong : ChangeSpec := { name := "firstWords", fn := fun _ => fun
  | [d1, d2] => { results := [.lit (.bool false)], args := [d1, d2] }
  | _ => none }
def FirstWordsWrongFalsely : Prop := firstWordsRow.holds Try.pinned (OpenSpec.ofChange firstWordsWrong)

/-- 'parlkeep2.UsefulTreesStay': WHATEVER THE INPUT: true; the input reads as it did. -/
def usefulTreesStaySpec : ChangeSpec := { name := "usefulTreesStay", fn := fun _ => fun
  | [d1, d2] => { results := [.lit (.bool true)], args := [d1, d2] }
  | _ => none }
def usefulTreesStayRow : OpenClaim := { program := "ytepahncakbadlaa", sum := "e5088f01ce2d8eafe3b6c7cd8b8e676b51b3ecfd180cb044720999815dd6291f", func := "parlance/parlkeep2.UsefulTreesStay", spec := "usefulTreesStay", unfollowed := true, recurses := true, plainKeys := false, apart := false }
def UsefulTreesStaySaid : Prop := usefulTreesStayRow.holds Try.pinned (OpenSpec.ofChange usefulTreesStaySpec)

/-- ITS FALSE NEIGHBOUR: 'it returns false'. Refute it at one input. -/
def usefulTreesStayWrong : ChangeSpec := { name := "usefulTreesStay", fn := fun _ => fun
  | [d1, d2] => { results := [.lit (.bool false)], args := [d1, d2] }
  | _ => none }
def UsefulTreesStayWrongFalsely : Prop := usefulTreesStayRow.holds Try.pinned (OpenSpec.ofChange usefulTreesStayWrong)

/- THE SECOND FORM. 'bulk': how many values and letters a reading holds, each counted each time it is reached (what is shared counts as often as it is met; a slice's spare places count too). A statement '..UptoSaid' is the law's where the arguments, and the package variables that the reading takes, are together of bulk at most 1048576: NARROWER than '..Said'. Prove '..Said' where nothing that the law and all that it calls make is longer than what came in: it says more and counts as full. Else prove '..UptoSaid'. A law counts once. -/
mutual
def uptoBulk {H : Type} : DataW H → Nat
  | .lit (.string bytes) => bytes.length + 1
  | .lit _ => 1
  | .nil => 1
  | .ptr d => uptoBulk d + 1
  | .slice elems spare => uptoBulkAll elems + uptoBulkAll spare + 1
  | .agg parts => uptoBulkAll parts + 1
  | .iface _ d => uptoBulk d + 1
  | .map entries => uptoBulkEntries entries + 1
  | .held _ => 1
def uptoBulkAll {H : Type} : List (DataW H) → Nat
  | [] => 0
  | d :: r => uptoBulk d + uptoBulkAll r
def uptoBulkEntries {H : Type} : List (Lit × DataW H) → Nat
  | [] => 0
  | x :: r => uptoBulkEntry x + uptoBulkEntries r
def uptoBulkEntry {H : Type} : Lit × DataW H → Nat
  | (.string bytes, d) => bytes.length + uptoBulk d + 1
  | (_, d) => uptoBulk d + 1
 end
def uptoSmall : (H : Type) → List (DataW H) → Bool := fun _ ds => decide (uptoBulkAll ds ≤ 1048576)
def OpenSpec.upto (s : _root_.Go.ChangeSpec) : _root_.Go.OpenSpec := { _root_.Go.OpenSpec.ofChange s with cond := some uptoSmall }

/-- 'parlkeep2.ClosedUnion', WHERE WHAT IT READS IS OF BULK AT MOST 1048576: true; the input reads as it did. -/
def closedUnionUptoRow : OpenClaim := { program := "ytepahncakbadlaa", sum := "e5088f01ce2d8eafe3b6c7cd8b8e676b51b3ecfd180cb044720999815dd6291f", func := "parlance/parlkeep2.ClosedUnion", spec := "closedUnion", unfollowed := true, recurses := true, plainKeys := false, apart := false, narrowed := true }
def ClosedUnionUptoSaid : Prop := closedUnionUptoRow.holds Try.pinned (OpenSpec.upto closedUnionSpec)

/-- 'parlkeep2.GramTreesHaveMeaning', WHERE WHAT IT READS IS OF BULK AT MOST 1048576: true; the input reads as it did. -/
def gramTreesHaveMeaningUptoRow : OpenClaim := { program := "ytepahncakbadlaa", sum := "e5088f01ce2d8eafe3b6c7cd8b8e676b51b3ecfd180cb044720999815dd6291f", func := "parlance/parlkeep2.GramTreesHaveMeaning", spec := "gramTreesHaveMeaning", unfollowed := true, recurses := true, plainKeys := false, apart := false, narrowed := true }
def GramTreesHaveMeaningUptoSaid : Prop := gramTreesHaveMeaningUptoRow.holds Try.pinned (OpenSpec.upto gramTreesHaveMeaningSpec)

/-- 'parlkeep2.UsefulOnce', WHERE WHAT IT READS IS OF BULK AT MOST 1048576: true; the input reads as it did. -/
def usefulOnceUptoRow : OpenClaim := { program := "ytepahncakbadlaa", sum := "e5088f01ce2d8eafe3b6c7cd8b8e676b51b3ecfd180cb044720999815dd6291f", func := "parlance/parlkeep2.UsefulOnce", spec := "usefulOnce", unfollowed := true, recurses := true, plainKeys := false, apart := false, narrowed := true }
def UsefulOnceUptoSaid : Prop := usefulOnceUptoRow.holds Try.pinned (OpenSpec.upto usefulOnceSpec)

/-- 'parlkeep2.UsefulLeastWords', WHERE WHAT IT READS IS OF BULK AT MOST 1048576: true; the input reads as it did. -/
def usefulLeastWordsUptoRow : OpenClaim := { program := "ytepahncakbadlaa", sum := "e5088f01ce2d8eafe3b6c7cd8b8e676b51b3ecfd180cb044720999815dd6291f", func := "parlance/parlkeep2.UsefulLeastWords", spec := "usefulLeastWords", unfollowed := true, recurses := true, plainKeys := false, apart := false, narrowed := true }
def UsefulLeastWordsUptoSaid : Prop := usefulLeastWordsUptoRow.holds Try.pinned (OpenSpec.upto usefulLeastWordsSpec)

/-- 'parllaw2.PrecTrees', WHERE WHAT IT READS IS OF BULK AT MOST 1048576: true; the input reads as it did. -/
def precTreesUptoRow : OpenClaim := { program := "ytepahncakbadlaa", sum := "e5088f01ce2d8eafe3b6c7cd8b8e676b51b3ecfd180cb044720999815dd6291f", func := "parlance/parllaw2.PrecTrees", spec := "precTrees", unfollowed := true, recurses := true, loops := true, plainKeys := false, apart := false, narrowed := true }
def PrecTreesUptoSaid : Prop := precTreesUptoRow.holds Try.pinned (OpenSpec.upto precTreesSpec)

/-- 'parltop.Names', WHERE WHAT IT READS IS OF BULK AT MOST 1048576: true; the input reads as it did. -/
def namesUptoRow : OpenClaim := { program := "ytepahncakbadlaa", sum := "e5088f01ce2d8eafe3b6c7cd8b8e676b51b3ecfd180cb044720999815dd6291f", func := "parlance/parltop.Names", spec := "names", plainKeys := false, apart := false, narrowed := true }
def NamesUptoSaid : Prop := namesUptoRow.holds Try.pinned (OpenSpec.upto namesSpec)

/-- 'parlkeep2.FirstFollows', WHERE WHAT IT READS IS OF BULK AT MOST 1048576: true; the input reads as it did. -/
def firstFollowsUptoRow : OpenClaim := { program := "ytepahncakbadlaa", sum := "e5088f01ce2d8eafe3b6c7cd8b8e676b51b3ecfd180cb044720999815dd6291f", func := "parlance/parlkeep2.FirstFollows", spec := "firstFollows", unfollowed := true, recurses := true, plainKeys := false, apart := false, narrowed := true }
def FirstFollowsUptoSaid : Prop := firstFollowsUptoRow.holds Try.pinned (OpenSpec.upto firstFollowsSpec)

/-- 'parlkeep2.FactorForm', WHERE WHAT IT READS IS OF BULK AT MOST 1048576: true; the input reads as it did. -/
def factorFormUptoRow : OpenClaim := { program := "ytepahncakbadlaa", sum := "e5088f01ce2d8eafe3b6c7cd8b8e676b51b3ecfd180cb044720999815dd6291f", func := "parlance/parlkeep2.FactorForm", spec := "factorForm", unfollowed := true, recurses := true, plainKeys := false, apart := false, narrowed := true }
def FactorFormUptoSaid : Prop := factorFormUptoRow.holds Try.pinned (OpenSpec.upto factorFormSpec)

/-- 'parlkeep2.ClosedPut', WHERE WHAT IT READS IS OF BULK AT MOST 1048576: true; the input reads as it did. -/
def closedPutUptoRow : OpenClaim := { program := "ytepahncakbadlaa", sum := "e5088f01ce2d8eafe3b6c7cd8b8e676b51b3ecfd180cb044720999815dd6291f", func := "parlance/parlkeep2.ClosedPut", spec := "closedPut", unfollowed := true, recurses := true, plainKeys := false, apart := false, narrowed := true }
def ClosedPutUptoSaid : Prop := closedPutUptoRow.holds Try.pinned (OpenSpec.upto closedPutSpec)

/-- 'parlkeep2.FirstWords', WHERE WHAT IT READS IS OF BULK AT MOST 1048576: true; the input reads as it did. -/
def firstWordsUptoRow : OpenClaim := { program := "ytepahncakbadlaa", sum := "e5088f01ce2d8eafe3b6c7cd8b8e676b51b3ecfd180cb044720999815dd6291f", func := "parlance/parlkeep2.FirstWords", spec := "firstWords", unfollowed := true, recurses := true, plainKeys := false, apart := false, narrowed := true }
def FirstWordsUptoSaid : Prop := firstWordsUptoRow.holds Try.pinned (OpenSpec.upto firstWordsSpec)

/-- 'parlkeep2.UsefulTreesStay', WHERE WHAT IT READS IS OF BULK AT MOST 1048576: true; the input reads as it did. -/
def usefulTreesStayUptoRow : OpenClaim := { program := "ytepahncakbadlaa", sum := "e5088f01ce2d8eafe3b6c7cd8b8e676b51b3ecfd180cb044720999815dd6291f", func := "parlance/parlkeep2.UsefulTreesStay", spec := "usefulTreesStay", unfollowed := true, recurses := true, plainKeys := false, apart := false, narrowed := true }
def UsefulTreesStayUptoSaid : Prop := usefulTreesStayUptoRow.holds Try.pinned (OpenSpec.upto usefulTreesStaySpec)

end Rows
end Go.Proofs.Ytepahncakbadlaa
