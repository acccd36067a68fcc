/-
  NARROWER THAN 'FOR EVERY INPUT', by the rows' own cells (each row's printed sentence says how): ClosedSays: laid · GramTrees: loops, laid · FactorSays: laid · UsefulSays: laid · UsefulTrims: laid · InlineSays: laid · FirstSays: laid · FollowSays: laid · CycleSays: laid · ClosedPuts: loops, laid · LeftrecSays: laid · InlineMaps: loops, laid.
  DERIVED. THE GIVEN ROWS OF THIS SEAT. 12 by the template 'for every input the law returns true; each argument reads behind the call as it read before'; 0 by the template 'total and deterministic' (their statements: YtjmpheidcofhnaaDoorTotals.lean).
  GIVEN WITH THE SEED: the statements are not yours to turn. If you find one false, say at which input.
  Laid BY PROGRAM, IN A SANDBOX (cutbox-rows.mjs): the forced cells as the released guide's own fill.sh prints them over the translation 61a039bd511e5963… (all of the seat's roots in one cut). By AI agents, Wed Nov 11 2026. No macro, syntax, notation, axiom, sorry.
-/
import Derived.Test.YtjmpheidcofhnaaDoorChecked
import GoSem.Claim
import GoSem.ClaimJoined
import GoSem.ClaimMapViews
import Derived.JoinedTies
import Derived.KernelRfl
namespace Go.Proofs.YtjmpheidcofhnaaDoor
/- THE CELL 'sum', in the pinned program and in every row, IS THE sha256 OF THE DUMP (.gsa) THAT YtjmpheidcofhnaaDoorProg.lean LOADS. Nothing in Lean hashes anything: it is a label: what it is worth is what the hold of that sum in a sandbox is worth. -/
noncomputable def Tryd.pinned : Pinned := { name := "ytjmpheidcofhnaadoor", sum := "61a039bd511e59634b57d3892bcbd34f7884987b767b062cdc129cf8fcc0fa96", checked := Tryd.checked }
namespace Rows
def none {H : Type} : Left H := { results := [], args := [] }

/- WHAT THE LISTED PACKAGE-LEVEL VARIABLES READ AS WHEN THE CALL BEGINS. Each datum BY PROGRAM (the guide's laid-datum.mjs) off the statement by which the dump's own 'gosem.cut.vars' lays the variable. In a bare row this is a premise. The card (YtjmpheidcofhnaaDoorCards.lean) ties it to the program's text. -/
def laid_math_bits_deBruijn32tab {H : Type} : DataW H := .agg [.lit (.int .u8 0), .lit (.int .u8 1), .lit (.int .u8 28), .lit (.int .u8 2), .lit (.int .u8 29), .lit (.int .u8 14), .lit (.int .u8 24), .lit (.int .u8 3), .lit (.int .u8 30), .lit (.int .u8 22), .lit (.int .u8 20), .lit (.int .u8 15), .lit (.int .u8 25), .lit (.int .u8 17), .lit (.int .u8 4), .lit (.int .u8 8), .lit (.int .u8 31), .lit (.int .u8 27), .lit (.int .u8 13), .lit (.int .u8 23), .lit (.int .u8 21), .lit (.int .u8 19), .lit (.int .u8 16), .lit (.int .u8 7), .lit (.int .u8 26), .lit (.int .u8 12), .lit (.int .u8 18), .lit (.int .u8 6), .lit (.int .u8 11), .lit (.int .u8 5), .lit (.int .u8 10), .lit (.int .u8 9)]
def laid_math_bits_deBruijn64tab {H : Type} : DataW H := .agg [.lit (.int .u8 0), .lit (.int .u8 1), .lit (.int .u8 56), .lit (.int .u8 2), .lit (.int .u8 57), .lit (.int .u8 49), .lit (.int .u8 28), .lit (.int .u8 3), .lit (.int .u8 61), .lit (.int .u8 58), .lit (.int .u8 42), .lit (.int .u8 50), .lit (.int .u8 38), .lit (.int .u8 29), .lit (.int .u8 17), .lit (.int .u8 4), .lit (.int .u8 62), .lit (.int .u8 47), .lit (.int .u8 59), .lit (.int .u8 36), .lit (.int .u8 45), .lit (.int .u8 43), .lit (.int .u8 51), .lit (.int .u8 22), .lit (.int .u8 53), .lit (.int .u8 39), .lit (.int .u8 33), .lit (.int .u8 30), .lit (.int .u8 24), .lit (.int .u8 18), .lit (.int .u8 12), .lit (.int .u8 5), .lit (.int .u8 63), .lit (.int .u8 55), .lit (.int .u8 48), .lit (.int .u8 27), .lit (.int .u8 60), .lit (.int .u8 41), .lit (.int .u8 37), .lit (.int .u8 16), .lit (.int .u8 46), .lit (.int .u8 35), .lit (.int .u8 44), .lit (.int .u8 21), .lit (.int .u8 52), .lit (.int .u8 32), .lit (.int .u8 23), .lit (.int .u8 11), .lit (.int .u8 54), .lit (.int .u8 26), .lit (.int .u8 40), .lit (.int .u8 15), .lit (.int .u8 34), .lit (.int .u8 20), .lit (.int .u8 31), .lit (.int .u8 10), .lit (.int .u8 25), .lit (.int .u8 14), .lit (.int .u8 19), .lit (.int .u8 9), .lit (.int .u8 13), .lit (.int .u8 8), .lit (.int .u8 7), .lit (.int .u8 6)]
def laid_internal_strconv_uint64pow10 {H : Type} : DataW H := .agg [.lit (.int .u64 1), .lit (.int .u64 10), .lit (.int .u64 100), .lit (.int .u64 1000), .lit (.int .u64 10000), .lit (.int .u64 100000), .lit (.int .u64 1000000), .lit (.int .u64 10000000), .lit (.int .u64 100000000), .lit (.int .u64 1000000000), .lit (.int .u64 10000000000), .lit (.int .u64 100000000000), .lit (.int .u64 1000000000000), .lit (.int .u64 10000000000000), .lit (.int .u64 100000000000000), .lit (.int .u64 1000000000000000), .lit (.int .u64 10000000000000000), .lit (.int .u64 100000000000000000), .lit (.int .u64 1000000000000000000), .lit (.int .u64 10000000000000000000)]

/-- 'parllaw2.ClosedSays': WHATEVER THE INPUT: true; the input reads as it did. -/
def closedSaysSpec : ChangeSpec := { name := "closedSays", fn := fun _ => fun
  | [d1, d2] => { results := [.lit (.bool true)], args := [d1, d2] }
  | _ => none }
def closedSaysRow : OpenClaim := { program := "ytjmpheidcofhnaadoor", sum := "61a039bd511e59634b57d3892bcbd34f7884987b767b062cdc129cf8fcc0fa96", func := "parlance/parllaw2.ClosedSays", spec := "closedSays", unfollowed := true, recurses := true, named := ["internal/strconv.uint64pow10", "math/bits.deBruijn32tab", "math/bits.deBruijn64tab"], plainKeys := false, apart := false, laid := [("math/bits.deBruijn32tab", laid_math_bits_deBruijn32tab), ("math/bits.deBruijn64tab", laid_math_bits_deBruijn64tab), ("internal/strconv.uint64pow10", laid_internal_strconv_uint64pow10)] }
def ClosedSaysSaid : Prop := closedSaysRow.holds Tryd.pinned (OpenSpec.ofChange closedSaysSpec)

/-- ITS FALSE NEIGHBOUR: 'it returns false'. Refute it at one input. -/
def closedSaysWrong : ChangeSpec := { name := "closedSays", fn := fun _ => fun
  | [d1, d2] => { results := [.lit (.bool false)], args := [d1, d2] }
  | _ => none }
def ClosedSaysWrongFalsely : Prop := closedSaysRow.holds Tryd.pinned (OpenSpec.ofChange closedSaysWrong)

/-- 'parllaw2.GramTrees': WHATEVER THE INPUT: true; the input reads as it did. -/
def gramTreesSpec : ChangeSpec := { name := "gramTrees", fn := fun _ => fun
  | [d1, d2] => { results := [.lit (.bool true)], args := [d1, d2] }
  | _ => none }
def gramTreesRow : OpenClaim := { program := "ytjmpheidcofhnaadoor", sum := "61a039bd511e59634b57d3892bcbd34f7884987b767b062cdc129cf8fcc0fa96", func := "parlance/parllaw2.GramTrees", spec := "gramTrees", unfollowed := true, recurses := true, named := ["internal/strconv.uint64pow10", "math/bits.deBruijn32tab", "math/bits.deBruijn64tab"], loops := true, plainKeys := false, apart := false, laid := [("math/bits.deBruijn32tab", laid_math_bits_deBruijn32tab), ("math/bits.deBruijn64tab", laid_math_bits_deBruijn64tab), ("internal/strconv.uint64pow10", laid_internal_strconv_uint64pow10)] }
def GramTreesSaid : Prop := gramTreesRow.holds Tryd.pinned (OpenSpec.ofChange gramTreesSpec)

/-- ITS FALSE NEIGHBOUR: 'it returns false'. Refute it at one input. -/
def gramTreesWrong : ChangeSpec := { name := "gramTrees", fn := fun _ => fun
  | [d1, d2] => { results := [.lit (.bool false)], args := [d1, d2] }
  | _ => none }
def GramTreesWrongFalsely : Prop := gramTreesRow.holds Tryd.pinned (OpenSpec.ofChange gramTreesWrong)

/-- 'parllaw2.FactorSays': WHATEVER THE INPUT: true; the input reads as it did. -/
def factorSaysSpec : ChangeSpec := { name := "factorSays", fn := fun _ => fun
  | [d] => { results := [.lit (.bool true)], args := [d] }
  | _ => none }
def factorSaysRow : OpenClaim := { program := "ytjmpheidcofhnaadoor", sum := "61a039bd511e59634b57d3892bcbd34f7884987b767b062cdc129cf8fcc0fa96", func := "parlance/parllaw2.FactorSays", spec := "factorSays", unfollowed := true, recurses := true, named := ["internal/strconv.uint64pow10", "math/bits.deBruijn32tab", "math/bits.deBruijn64tab"], plainKeys := false, apart := false, laid := [("math/bits.deBruijn32tab", laid_math_bits_deBruijn32tab), ("math/bits.deBruijn64tab", laid_math_bits_deBruijn64tab), ("internal/strconv.uint64pow10", laid_internal_strconv_uint64pow10)] }
def FactorSaysSaid : Prop := factorSaysRow.holds Tryd.pinned (OpenSpec.ofChange factorSaysSpec)

/-- ITS FALSE NEIGHBOUR: 'it returns false'. Refute it at one input. -/
def factorSaysWrong : ChangeSpec := { name := "factorSays", fn := fun _ => fun
  | [d] => { results := [.lit (.bool false)], args := [d] }
  | _ => none }
def FactorSaysWrongFalsely : Prop := factorSaysRow.holds Tryd.pinned (OpenSpec.ofChange factorSaysWrong)

/-- 'parllaw2.UsefulSays': WHATEVER THE INPUT: true; the input reads as it did. -/
def usefulSaysSpec : ChangeSpec := { name := "usefulSays", fn := fun _ => fun
  | [d1, d2] => { results := [.lit (.bool true)], args := [d1, d2] }
  | _ => none }
def usefulSaysRow : OpenClaim := { program := "ytjmpheidcofhnaadoor", sum := "61a039bd511e59634b57d3892bcbd34f7884987b767b062cdc129cf8fcc0fa96", func := "parlance/parllaw2.UsefulSays", spec := "usefulSays", unfollowed := true, recurses := true, named := ["internal/strconv.uint64pow10", "math/bits.deBruijn32tab", "math/bits.deBruijn64tab"], plainKeys := false, apart := false, laid := [("math/bits.deBruijn32tab", laid_math_bits_deBruijn32tab), ("math/bits.deBruijn64tab", laid_math_bits_deBruijn64tab), ("internal/strconv.uint64pow10", laid_internal_strconv_uint64pow10)] }
def UsefulSaysSaid : Prop := usefulSaysRow.holds Tryd.pinned (OpenSpec.ofChange usefulSaysSpec)

/-- ITS FALSE NEIGHBOUR: 'it returns false'. Refute it at one input. -/
def usefulSaysWrong : ChangeSpec := { name := "usefulSays", fn := fun _ => fun
  | [d1, d2] => { results := [.lit (.bool false)], args := [d1, d2] }
  | _ => none }
def UsefulSaysWrongFalsely : Prop := usefulSaysRow.holds Tryd.pinned (OpenSpec.ofChange usefulSaysWrong)

/-- 'parllaw2.UsefulTrims': WHATEVER THE INPUT: true; the input reads as it did. -/
def usefulTrimsSpec : ChangeSpec := { name := "usefulTrims", fn := fun _ => fun
  | [d] => { results := [.lit (.bool true)], args := [d] }
  | _ => none }
def usefulTrimsRow : OpenClaim := { program := "ytjmpheidcofhnaadoor", sum := "61a039bd511e59634b57d3892bcbd34f7884987b767b062cdc129cf8fcc0fa96", func := "parlance/parllaw2.UsefulTrims", spec := "usefulTrims", unfollowed := true, recurses := true, named := ["internal/strconv.uint64pow10", "math/bits.deBruijn32tab", "math/bits.deBruijn64tab"], plainKeys := false, apart := false, laid := [("math/bits.deBruijn32tab", laid_math_bits_deBruijn32tab), ("math/bits.deBruijn64tab", laid_math_bits_deBruijn64tab), ("internal/strconv.uint64pow10", laid_internal_strconv_uint64pow10)] }
def UsefulTrimsSaid : Prop := usefulTrimsRow.holds Tryd.pinned (OpenSpec.ofChange usefulTrimsSpec)

/-- ITS FALSE NEIGHBOUR: 'it returns false'. Refute it at one input. -/
def usefulTrimsWrong : ChangeSpec := { name := "usefulTrims", fn := fun _ => fun
  | [d] => { results := [.lit (.bool false)], args := [d] }
  | _ => none }
def UsefulTrimsWrongFalsely : Prop := usefulTrimsRow.holds Tryd.pinned (OpenSpec.ofChange usefulTrimsWrong)

/-- 'parllaw2.InlineSays': WHATEVER THE INPUT: true; the input reads as it did. -/
def inlineSaysSpec : ChangeSpec := { name := "inlineSays", fn := fun _ => fun
  | [d1, d2] => { results := [.lit (.bool true)], args := [d1, d2] }
  | _ => none }
def inlineSaysRow : OpenClaim := { program := "ytjmpheidcofhnaadoor", sum := "61a039bd511e59634b57d3892bcbd34f7884987b767b062cdc129cf8fcc0fa96", func := "parlance/parllaw2.InlineSays", spec := "inlineSays", unfollowed := true, recurses := true, named := ["internal/strconv.uint64pow10", "math/bits.deBruijn32tab", "math/bits.deBruijn64tab"], plainKeys := false, apart := false, laid := [("math/bits.deBruijn32tab", laid_math_bits_deBruijn32tab), ("math/bits.deBruijn64tab", laid_math_bits_deBruijn64tab), ("internal/strconv.uint64pow10", laid_internal_strconv_uint64pow10)] }
def InlineSaysSaid : Prop := inlineSaysRow.holds Tryd.pinned (OpenSpec.ofChange inlineSaysSpec)

/-- ITS FALSE NEIGHBOUR: 'it returns false'. Refute it at one input. -/
def inlineSaysWrong : ChangeSpec := { name := "inlineSays", fn := fun _ => fun
  | [d1, d2] => { results := [.lit (.bool false)], args := [d1, d2] }
  | _ => none }
def InlineSaysWrongFalsely : Prop := inlineSaysRow.holds Tryd.pinned (OpenSpec.ofChange inlineSaysWrong)

/-- 'parllaw2.FirstSays': WHATEVER THE INPUT: true; the input reads as it did. -/
def firstSaysSpec : ChangeSpec := { name := "firstSays", fn := fun _ => fun
  | [d1, d2] => { results := [.lit (.bool true)], args := [d1, d2] }
  | _ => none }
def firstSaysRow : OpenClaim := { program := "ytjmpheidcofhnaadoor", sum := "61a039bd511e59634b57d3892bcbd34f7884987b767b062cdc129cf8fcc0fa96", func := "parlance/parllaw2.FirstSays", spec := "firstSays", unfollowed := true, recurses := true, named := ["internal/strconv.uint64pow10", "math/bits.deBruijn32tab", "math/bits.deBruijn64tab"], plainKeys := false, apart := false, laid := [("math/bits.deBruijn32tab", laid_math_bits_deBruijn32tab), ("math/bits.deBruijn64tab", laid_math_bits_deBruijn64tab), ("internal/strconv.uint64pow10", laid_internal_strconv_uint64pow10)] }
def FirstSaysSaid : Prop := firstSaysRow.holds Tryd.pinned (OpenSpec.ofChange firstSaysSpec)

/-- ITS FALSE NEIGHBOUR: 'it returns false'. Refute it at one input. -/
def firstSaysWrong : ChangeSpec := { name := "firstSays", fn := fun _ => fun
  | [d1, d2] => { results := [.lit (.bool false)], args := [d1, d2] }
  | _ => none }
def FirstSaysWrongFalsely : Prop := firstSaysRow.holds Tryd.pinned (OpenSpec.ofChange firstSaysWrong)

/-- 'parllaw2.FollowSays': WHATEVER THE INPUT: true; the input reads as it did. -/
def followSaysSpec : ChangeSpec := { name := "followSays", fn := fun _ => fun
  | [d] => { results := [.lit (.bool true)], args := [d] }
  | _ => none }
def followSaysRow : OpenClaim := { program := "ytjmpheidcofhnaadoor", sum := "61a039bd511e59634b57d3892bcbd34f7884987b767b062cdc129cf8fcc0fa96", func := "parlance/parllaw2.FollowSays", spec := "followSays", unfollowed := true, recurses := true, named := ["internal/strconv.uint64pow10", "math/bits.deBruijn32tab", "math/bits.deBruijn64tab"], plainKeys := false, apart := false, laid := [("math/bits.deBruijn32tab", laid_math_bits_deBruijn32tab), ("math/bits.deBruijn64tab", laid_math_bits_deBruijn64tab), ("internal/strconv.uint64pow10", laid_internal_strconv_uint64pow10)] }
def FollowSaysSaid : Prop := followSaysRow.holds Tryd.pinned (OpenSpec.ofChange followSaysSpec)

/-- ITS FALSE NEIGHBOUR: 'it returns false'. Refute it at one input. -/
def followSaysWrong : ChangeSpec := { name := "followSays", fn := fun _ => fun
  | [d] => { results := [.lit (.bool false)], args := [d] }
  | _ => none }
def FollowSaysWrongFalsely : Prop := followSaysRow.holds Tryd.pinned (OpenSpec.ofChange followSaysWrong)

/-- 'parllaw2.CycleSays': WHATEVER THE INPUT: true; the input reads as it did. -/
def cycleSaysSpec : ChangeSpec := { name := "cycleSays", fn := fun _ => fun
  | [d] => { results := [.lit (.bool true)], args := [d] }
  | _ => none }
def cycleSaysRow : OpenClaim := { program := "ytjmpheidcofhnaadoor", sum := "61a039bd511e59634b57d3892bcbd34f7884987b767b062cdc129cf8fcc0fa96", func := "parlance/parllaw2.CycleSays", spec := "cycleSays", unfollowed := true, recurses := true, named := ["internal/strconv.uint64pow10", "math/bits.deBruijn32tab", "math/bits.deBruijn64tab"], plainKeys := false, apart := false, laid := [("math/bits.deBruijn32tab", laid_math_bits_deBruijn32tab), ("math/bits.deBruijn64tab", laid_math_bits_deBruijn64tab), ("internal/strconv.uint64pow10", laid_internal_strconv_uint64pow10)] }
def CycleSaysSaid : Prop := cycleSaysRow.holds Tryd.pinned (OpenSpec.ofChange cycleSaysSpec)

/-- ITS FALSE NEIGHBOUR: 'it returns false'. Refute it at one input. -/
def cycleSaysWrong : ChangeSpec := { name := "cycleSays", fn := fun _ => fun
  | [d] => { results := [.lit (.bool false)], args := [d] }
  | _ => none }
def CycleSaysWrongFalsely : Prop := cycleSaysRow.holds Tryd.pinned (OpenSpec.ofChange cycleSaysWrong)

/-- 'parllaw2.ClosedPuts': WHATEVER THE INPUT: true; the input reads as it did. -/
def closedPutsSpec : ChangeSpec := { name := "closedPuts", fn := fun _ => fun
  | [d1, d2, d3, d4] => { results := [.lit (.bool true)], args := [d1, d2, d3, d4] }
  | _ => none }
def closedPutsRow : OpenClaim := { program := "ytjmpheidcofhnaadoor", sum := "61a039bd511e59634b57d3892bcbd34f7884987b767b062cdc129cf8fcc0fa96", func := "parlance/parllaw2.ClosedPuts", spec := "closedPuts", unfollowed := true, recurses := true, named := ["internal/strconv.uint64pow10", "math/bits.deBruijn32tab", "math/bits.deBruijn64tab"], loops := true, plainKeys := false, apart := false, laid := [("math/bits.deBruijn32tab", laid_math_bits_deBruijn32tab), ("math/bits.deBruijn64tab", laid_math_bits_deBruijn64tab), ("internal/strconv.uint64pow10", laid_internal_strconv_uint64pow10)] }
def ClosedPutsSaid : Prop := closedPutsRow.holds Tryd.pinned (OpenSpec.ofChange closedPutsSpec)

/-- ITS FALSE NEIGHBOUR: 'it returns false'. Refute it at one input. -/
def closedPutsWrong : ChangeSpec := { name := "closedPuts", fn := fun _ => fun
  | [d1, d2, d3, d4] => { results := [.lit (.bool false)], args := [d1, d2, d3, d4] }
  | _ => none }
def ClosedPutsWrongFalsely : Prop := closedPutsRow.holds Tryd.pinned (OpenSpec.ofChange closedPutsWrong)

/-- 'parllaw2.LeftrecSays': WHATEVER THE INPUT: true; the input reads as it did. -/
def leftrecSaysSpec : ChangeSpec := { name := "leftrecSays", fn := fun _ => fun
  | [d] => { results := [.lit (.bool true)], args := [d] }
  | _ => none }
def leftrecSaysRow : OpenClaim := { program := "ytjmpheidcofhnaadoor", sum := "61a039bd511e59634b57d3892bcbd34f7884987b767b062cdc129cf8fcc0fa96", func := "parlance/parllaw2.LeftrecSays", spec := "leftrecSays", unfollowed := true, recurses := true, named := ["internal/strconv.uint64pow10", "math/bits.deBruijn32tab", "math/bits.deBruijn64tab"], plainKeys := false, apart := false, laid := [("math/bits.deBruijn32tab", laid_math_bits_deBruijn32tab), ("math/bits.deBruijn64tab", laid_math_bits_deBruijn64tab), ("internal/strconv.uint64pow10", laid_internal_strconv_uint64pow10)] }
def LeftrecSaysSaid : Prop := leftrecSaysRow.holds Tryd.pinned (OpenSpec.ofChange leftrecSaysSpec)

/-- ITS FALSE NEIGHBOUR: 'it returns false'. Refute it at one input. -/
def leftrecSaysWrong : ChangeSpec := { name := "leftrecSays", fn := fun _ => fun
  | [d] => { results := [.lit (.bool false)], args := [d] }
  | _ => none }
def LeftrecSaysWrongFalsely : Prop := leftrecSaysRow.holds Tryd.pinned (OpenSpec.ofChange leftrecSaysWrong)

/-- 'parllaw2.InlineMaps': WHATEVER THE INPUT: true; the input reads as it did. -/
def inlineMapsSpec : ChangeSpec := { name := "inlineMaps", fn := fun _ => fun
  | [d1, d2, d3, d4] => { results := [.lit (.bool true)], args := [d1, d2, d3, d4] }
  | _ => none }
def inlineMapsRow : OpenClaim := { program := "ytjmpheidcofhnaadoor", sum := "61a039bd511e59634b57d3892bcbd34f7884987b767b062cdc129cf8fcc0fa96", func := "parlance/parllaw2.InlineMaps", spec := "inlineMaps", unfollowed := true, recurses := true, named := ["internal/strconv.uint64pow10", "math/bits.deBruijn32tab", "math/bits.deBruijn64tab"], loops := true, plainKeys := false, apart := false, laid := [("math/bits.deBruijn32tab", laid_math_bits_deBruijn32tab), ("math/bits.deBruijn64tab", laid_math_bits_deBruijn64tab), ("internal/strconv.uint64pow10", laid_internal_strconv_uint64pow10)] }
def InlineMapsSaid : Prop := inlineMapsRow.holds Tryd.pinned (OpenSpec.ofChange inlineMapsSpec)

/-- ITS FALSE NEIGHBOUR: 'it returns false'. Refute it at one input. -/
def inlineMapsWrong : ChangeSpec := { name := "inlineMaps", fn := fun _ => fun
  | [d1, d2, d3, d4] => { results := [.lit (.bool false)], args := [d1, d2, d3, d4] }
  | _ => none }
def InlineMapsWrongFalsely : Prop := inlineMapsRow.holds Tryd.pinned (OpenSpec.ofChange inlineMapsWrong)

/- THE SECOND FORM. 'bulk': how many values and letters a reading holds, each counted each time it is reached (what is shared counts as often as it is met; a slice's spare places count too). A statement '..UptoSaid' is the law's where the arguments, and the package variables that the reading takes, are together of bulk at most 1048576: NARROWER than '..Said'. Prove '..Said' where nothing that the law and all that it calls make is longer than what came in: it says more and counts as full. Else prove '..UptoSaid'. A law counts once. -/
mutual
def uptoBulk {H : Type} : DataW H → Nat
  | .lit (.string bytes) => bytes.length + 1
  | .lit _ => 1
  | .nil => 1
  | .ptr d => uptoBulk d + 1
  | .slice elems spare => uptoBulkAll elems + uptoBulkAll spare + 1
  | .agg parts => uptoBulkAll parts + 1
  | .iface _ d => uptoBulk d + 1
  | .map entries => uptoBulkEntries entries + 1
  | .held _ => 1
def uptoBulkAll {H : Type} : List (DataW H) → Nat
  | [] => 0
  | d :: r => uptoBulk d + uptoBulkAll r
def uptoBulkEntries {H : Type} : List (Lit × DataW H) → Nat
  | [] => 0
  | x :: r => uptoBulkEntry x + uptoBulkEntries r
def uptoBulkEntry {H : Type} : Lit × DataW H → Nat
  | (.string bytes, d) => bytes.length + uptoBulk d + 1
  | (_, d) => uptoBulk d + 1
 end
def uptoSmall : (H : Type) → List (DataW H) → Bool := fun _ ds => decide (uptoBulkAll ds ≤ 1048576)
def OpenSpec.upto (s : _root_.Go.ChangeSpec) : _root_.Go.OpenSpec := { _root_.Go.OpenSpec.ofChange s with cond := some uptoSmall }

/-- 'parllaw2.ClosedSays', WHERE WHAT IT READS IS OF BULK AT MOST 1048576: true; the input reads as it did. -/
def closedSaysUptoRow : OpenClaim := { program := "ytjmpheidcofhnaadoor", sum := "61a039bd511e59634b57d3892bcbd34f7884987b767b062cdc129cf8fcc0fa96", func := "parlance/parllaw2.ClosedSays", spec := "closedSays", unfollowed := true, recurses := true, named := ["internal/strconv.uint64pow10", "math/bits.deBruijn32tab", "math/bits.deBruijn64tab"], plainKeys := false, apart := false, laid := [("math/bits.deBruijn32tab", laid_math_bits_deBruijn32tab), ("math/bits.deBruijn64tab", laid_math_bits_deBruijn64tab), ("internal/strconv.uint64pow10", laid_internal_strconv_uint64pow10)], narrowed := true }
def ClosedSaysUptoSaid : Prop := closedSaysUptoRow.holds Tryd.pinned (OpenSpec.upto closedSaysSpec)

/-- 'parllaw2.GramTrees', WHERE WHAT IT READS IS OF BULK AT MOST 1048576: true; the input reads as it did. -/
def gramTreesUptoRow : OpenClaim := { program := "ytjmpheidcofhnaadoor", sum := "61a039bd511e59634b57d3892bcbd34f7884987b767b062cdc129cf8fcc0fa96", func := "parlance/parllaw2.GramTrees", spec := "gramTrees", unfollowed := true, recurses := true, named := ["internal/strconv.uint64pow10", "math/bits.deBruijn32tab", "math/bits.deBruijn64tab"], loops := true, plainKeys := false, apart := false, laid := [("math/bits.deBruijn32tab", laid_math_bits_deBruijn32tab), ("math/bits.deBruijn64tab", laid_math_bits_deBruijn64tab), ("internal/strconv.uint64pow10", laid_internal_strconv_uint64pow10)], narrowed := true }
def GramTreesUptoSaid : Prop := gramTreesUptoRow.holds Tryd.pinned (OpenSpec.upto gramTreesSpec)

/-- 'parllaw2.FactorSays', WHERE WHAT IT READS IS OF BULK AT MOST 1048576: true; the input reads as it did. -/
def factorSaysUptoRow : OpenClaim := { program := "ytjmpheidcofhnaadoor", sum := "61a039bd511e59634b57d3892bcbd34f7884987b767b062cdc129cf8fcc0fa96", func := "parlance/parllaw2.FactorSays", spec := "factorSays", unfollowed := true, recurses := true, named := ["internal/strconv.uint64pow10", "math/bits.deBruijn32tab", "math/bits.deBruijn64tab"], plainKeys := false, apart := false, laid := [("math/bits.deBruijn32tab", laid_math_bits_deBruijn32tab), ("math/bits.deBruijn64tab", laid_math_bits_deBruijn64tab), ("internal/strconv.uint64pow10", laid_internal_strconv_uint64pow10)], narrowed := true }
def FactorSaysUptoSaid : Prop := factorSaysUptoRow.holds Tryd.pinned (OpenSpec.upto factorSaysSpec)

/-- 'parllaw2.UsefulSays', WHERE WHAT IT READS IS OF BULK AT MOST 1048576: true; the input reads as it did. -/
def usefulSaysUptoRow : OpenClaim := { program := "ytjmpheidcofhnaadoor", sum := "61a039bd511e59634b57d3892bcbd34f7884987b767b062cdc129cf8fcc0fa96", func := "parlance/parllaw2.UsefulSays", spec := "usefulSays", unfollowed := true, recurses := true, named := ["internal/strconv.uint64pow10", "math/bits.deBruijn32tab", "math/bits.deBruijn64tab"], plainKeys := false, apart := false, laid := [("math/bits.deBruijn32tab", laid_math_bits_deBruijn32tab), ("math/bits.deBruijn64tab", laid_math_bits_deBruijn64tab), ("internal/strconv.uint64pow10", laid_internal_strconv_uint64pow10)], narrowed := true }
def UsefulSaysUptoSaid : Prop := usefulSaysUptoRow.holds Tryd.pinned (OpenSpec.upto usefulSaysSpec)

/-- 'parllaw2.UsefulTrims', WHERE WHAT IT READS IS OF BULK AT MOST 1048576: true; the input reads as it did. -/
def usefulTrimsUptoRow : OpenClaim := { program := "ytjmpheidcofhnaadoor", sum := "61a039bd511e59634b57d3892bcbd34f7884987b767b062cdc129cf8fcc0fa96", func := "parlance/parllaw2.UsefulTrims", spec := "usefulTrims", unfollowed := true, recurses := true, named := ["internal/strconv.uint64pow10", "math/bits.deBruijn32tab", "math/bits.deBruijn64tab"], plainKeys := false, apart := false, laid := [("math/bits.deBruijn32tab", laid_math_bits_deBruijn32tab), ("math/bits.deBruijn64tab", laid_math_bits_deBruijn64tab), ("internal/strconv.uint64pow10", laid_internal_strconv_uint64pow10)], narrowed := true }
def UsefulTrimsUptoSaid : Prop := usefulTrimsUptoRow.holds Tryd.pinned (OpenSpec.upto usefulTrimsSpec)

/-- 'parllaw2.InlineSays', WHERE WHAT IT READS IS OF BULK AT MOST 1048576: true; the input reads as it did. -/
def inlineSaysUptoRow : OpenClaim := { program := "ytjmpheidcofhnaadoor", sum := "61a039bd511e59634b57d3892bcbd34f7884987b767b062cdc129cf8fcc0fa96", func := "parlance/parllaw2.InlineSays", spec := "inlineSays", unfollowed := true, recurses := true, named := ["internal/strconv.uint64pow10", "math/bits.deBruijn32tab", "math/bits.deBruijn64tab"], plainKeys := false, apart := false, laid := [("math/bits.deBruijn32tab", laid_math_bits_deBruijn32tab), ("math/bits.deBruijn64tab", laid_math_bits_deBruijn64tab), ("internal/strconv.uint64pow10", laid_internal_strconv_uint64pow10)], narrowed := true }
def InlineSaysUptoSaid : Prop := inlineSaysUptoRow.holds Tryd.pinned (OpenSpec.upto inlineSaysSpec)

/-- 'parllaw2.FirstSays', WHERE WHAT IT READS IS OF BULK AT MOST 1048576: true; the input reads as it did. -/
def firstSaysUptoRow : OpenClaim := { program := "ytjmpheidcofhnaadoor", sum := "61a039bd511e59634b57d3892bcbd34f7884987b767b062cdc129cf8fcc0fa96", func := "parlance/parllaw2.FirstSays", spec := "firstSays", unfollowed := true, recurses := true, named := ["internal/strconv.uint64pow10", "math/bits.deBruijn32tab", "math/bits.deBruijn64tab"], plainKeys := false, apart := false, laid := [("math/bits.deBruijn32tab", laid_math_bits_deBruijn32tab), ("math/bits.deBruijn64tab", laid_math_bits_deBruijn64tab), ("internal/strconv.uint64pow10", laid_internal_strconv_uint64pow10)], narrowed := true }
def FirstSaysUptoSaid : Prop := firstSaysUptoRow.holds Tryd.pinned (OpenSpec.upto firstSaysSpec)

/-- 'parllaw2.FollowSays', WHERE WHAT IT READS IS OF BULK AT MOST 1048576: true; the input reads as it did. -/
def followSaysUptoRow : OpenClaim := { program := "ytjmpheidcofhnaadoor", sum := "61a039bd511e59634b57d3892bcbd34f7884987b767b062cdc129cf8fcc0fa96", func := "parlance/parllaw2.FollowSays", spec := "followSays", unfollowed := true, recurses := true, named := ["internal/strconv.uint64pow10", "math/bits.deBruijn32tab", "math/bits.deBruijn64tab"], plainKeys := false, apart := false, laid := [("math/bits.deBruijn32tab", laid_math_bits_deBruijn32tab), ("math/bits.deBruijn64tab", laid_math_bits_deBruijn64tab), ("internal/strconv.uint64pow10", laid_internal_strconv_uint64pow10)], narrowed := true }
def FollowSaysUptoSaid : Prop := followSaysUptoRow.holds Tryd.pinned (OpenSpec.upto followSaysSpec)

/-- 'parllaw2.CycleSays', WHERE WHAT IT READS IS OF BULK AT MOST 1048576: true; the input reads as it did. -/
def cycleSaysUptoRow : OpenClaim := { program := "ytjmpheidcofhnaadoor", sum := "61a039bd511e59634b57d3892bcbd34f7884987b767b062cdc129cf8fcc0fa96", func := "parlance/parllaw2.CycleSays", spec := "cycleSays", unfollowed := true, recurses := true, named := ["internal/strconv.uint64pow10", "math/bits.deBruijn32tab", "math/bits.deBruijn64tab"], plainKeys := false, apart := false, laid := [("math/bits.deBruijn32tab", laid_math_bits_deBruijn32tab), ("math/bits.deBruijn64tab", laid_math_bits_deBruijn64tab), ("internal/strconv.uint64pow10", laid_internal_strconv_uint64pow10)], narrowed := true }
def CycleSaysUptoSaid : Prop := cycleSaysUptoRow.holds Tryd.pinned (OpenSpec.upto cycleSaysSpec)

/-- 'parllaw2.ClosedPuts', WHERE WHAT IT READS IS OF BULK AT MOST 1048576: true; the input reads as it did. -/
def closedPutsUptoRow : OpenClaim := { program := "ytjmpheidcofhnaadoor", sum := "61a039bd511e59634b57d3892bcbd34f7884987b767b062cdc129cf8fcc0fa96", func := "parlance/parllaw2.ClosedPuts", spec := "closedPuts", unfollowed := true, recurses := true, named := ["internal/strconv.uint64pow10", "math/bits.deBruijn32tab", "math/bits.deBruijn64tab"], loops := true, plainKeys := false, apart := false, laid := [("math/bits.deBruijn32tab", laid_math_bits_deBruijn32tab), ("math/bits.deBruijn64tab", laid_math_bits_deBruijn64tab), ("internal/strconv.uint64pow10", laid_internal_strconv_uint64pow10)], narrowed := true }
def ClosedPutsUptoSaid : Prop := closedPutsUptoRow.holds Tryd.pinned (OpenSpec.upto closedPutsSpec)

/-- 'parllaw2.LeftrecSays', WHERE WHAT IT READS IS OF BULK AT MOST 1048576: true; the input reads as it did. -/
def leftrecSaysUptoRow : OpenClaim := { program := "ytjmpheidcofhnaadoor", sum := "61a039bd511e59634b57d3892bcbd34f7884987b767b062cdc129cf8fcc0fa96", func := "parlance/parllaw2.LeftrecSays", spec := "leftrecSays", unfollowed := true, recurses := true, named := ["internal/strconv.uint64pow10", "math/bits.deBruijn32tab", "math/bits.deBruijn64tab"], plainKeys := false, apart := false, laid := [("math/bits.deBruijn32tab", laid_math_bits_deBruijn32tab), ("math/bits.deBruijn64tab", laid_math_bits_deBruijn64tab), ("internal/strconv.uint64pow10", laid_internal_strconv_uint64pow10)], narrowed := true }
def LeftrecSaysUptoSaid : Prop := leftrecSaysUptoRow.holds Tryd.pinned (OpenSpec.upto leftrecSaysSpec)

/-- 'parllaw2.InlineMaps', WHERE WHAT IT READS IS OF BULK AT MOST 1048576: true; the input reads as it did. -/
def inlineMapsUptoRow : OpenClaim := { program := "ytjmpheidcofhnaadoor", sum := "61a039bd511e59634b57d3892bcbd34f7884987b767b062cdc129cf8fcc0fa96", func := "parlance/parllaw2.InlineMaps", spec := "inlineMaps", unfollowed := true, recurses := true, named := ["internal/strconv.uint64pow10", "math/bits.deBruijn32tab", "math/bits.deBruijn64tab"], loops := true, plainKeys := false, apart := false, laid := [("math/bits.deBruijn32tab", laid_math_bits_deBruijn32tab), ("math/bits.deBruijn64tab", laid_math_bits_deBruijn64tab), ("internal/strconv.uint64pow10", laid_internal_strconv_uint64pow10)], narrowed := true }
def InlineMapsUptoSaid : Prop := inlineMapsUptoRow.holds Tryd.pinned (OpenSpec.upto inlineMapsSpec)

end Rows
end Go.Proofs.YtjmpheidcofhnaaDoor
