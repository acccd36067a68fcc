/-
  No cell of these rows narrows 'for every input' (looked for: loops, veiled, ifaces, maps, wideKeys, modest, calm, conditions, laid).
  DERIVED. THE GIVEN ROWS OF THIS SEAT. 12 by the template 'for every input the law returns true; each argument reads behind the call as it read before'; 0 by the template 'total and deterministic' (their statements: YtkpncpcgkpadgaaTotals.lean).
  GIVEN WITH THE SEED: the statements are not yours to turn. If you find one false, say at which input.
  Laid BY PROGRAM, IN A SANDBOX (cutbox-rows.mjs): the forced cells as the released guide's own fill.sh prints them over the translation 24a4d56613556745… (all of the seat's roots in one cut). By AI agents, Wed Nov 11 2026. No macro, syntax, notation, axiom, sorry.
-/
import Derived.Test.YtkpncpcgkpadgaaChecked
import GoSem.Claim
import GoSem.ClaimJoined
import GoSem.ClaimMapViews
import Derived.JoinedTies
import Derived.KernelRfl
namespace Go.Proofs.Ytkpncpcgkpadgaa
/- THE CELL 'sum', in the pinned program and in every row, IS THE sha256 OF THE DUMP (.gsa) THAT YtkpncpcgkpadgaaProg.lean LOADS. Nothing in Lean hashes anything: it is a label: what it is worth is what the hold of that sum in a sandbox is worth. -/
noncomputable def Try.pinned : Pinned := { name := "ytkpncpcgkpadgaa", sum := "24a4d5661355674500b3ecb8104bb9dcd74930e00258f974b03fcbbe43cf493b", checked := Try.checked }
namespace Rows
def none {H : Type} : Left H := { results := [], args := [] }

/-- 'parllaw2.GramOrders': WHATEVER THE INPUT: true; the input reads as it did. -/
def gramOrdersSpec : ChangeSpec := { name := "gramOrders", fn := fun _ => fun
  | [d1, d2, d3, d4] => { results := [.lit (.bool true)], args := [d1, d2, d3, d4] }
  | _ => none }
def gramOrdersRow : OpenClaim := { program := "ytkpncpcgkpadgaa", sum := "24a4d5661355674500b3ecb8104bb9dcd74930e00258f974b03fcbbe43cf493b", func := "parlance/parllaw2.GramOrders", spec := "gramOrders", unfollowed := true, recurses := true, apart := false }
def GramOrdersSaid : Prop := gramOrdersRow.holds Try.pinned (OpenSpec.ofChange gramOrdersSpec)

/-- ITS FALSE NEIGHBOUR: 'it returns false'. Refute it at one input. -/
def gramOrdersWrong : ChangeSpec := { name := "gramOrders", fn := fun _ => fun
  | [d1, d2, d3, d4] => { results := [.lit (.bool false)], args := [d1, d2, d3, d4] }
  | _ => none }
def GramOrdersWrongFalsely : Prop := gramOrdersRow.holds Try.pinned (OpenSpec.ofChange gramOrdersWrong)

/-- 'parlkeep2.GramRulesApart': WHATEVER THE INPUT: true; the input reads as it did. -/
def gramRulesApartSpec : ChangeSpec := { name := "gramRulesApart", fn := fun _ => fun
  | [d] => { results := [.lit (.bool true)], args := [d] }
  | _ => none }
def gramRulesApartRow : OpenClaim := { program := "ytkpncpcgkpadgaa", sum := "24a4d5661355674500b3ecb8104bb9dcd74930e00258f974b03fcbbe43cf493b", func := "parlance/parlkeep2.GramRulesApart", spec := "gramRulesApart", unfollowed := true, recurses := true, apart := false }
def GramRulesApartSaid : Prop := gramRulesApartRow.holds Try.pinned (OpenSpec.ofChange gramRulesApartSpec)

/-- ITS FALSE NEIGHBOUR: 'it returns false'. Refute it at one input. -/
def gramRulesApartWrong : ChangeSpec := { name := "gramRulesApart", fn := fun _ => fun
  | [d] => { results := [.lit (.bool false)], args := [d] }
  | _ => none }
def GramRulesApartWrongFalsely : Prop := gramRulesApartRow.holds Try.pinned (OpenSpec.ofChange gramRulesApartWrong)

/-- 'parlkeep2.LayoutWellFormed': WHATEVER THE INPUT: true; the input reads as it did. -/
def layoutWellFormedSpec : ChangeSpec := { name := "layoutWellFormed", fn := fun _ => fun
  | [d1, d2, d3] => { results := [.lit (.bool true)], args := [d1, d2, d3] }
  | _ => none }
def layoutWellFormedRow : OpenClaim := { program := "ytkpncpcgkpadgaa", sum := "24a4d5661355674500b3ecb8104bb9dcd74930e00258f974b03fcbbe43cf493b", func := "parlance/parlkeep2.LayoutWellFormed", spec := "layoutWellFormed", apart := false }
def LayoutWellFormedSaid : Prop := layoutWellFormedRow.holds Try.pinned (OpenSpec.ofChange layoutWellFormedSpec)

/-- ITS FALSE NEIGHBOUR: 'it returns false'. Refute it at one input. -/
def layoutWellFormedWrong : ChangeSpec := { name := "layoutWellFormed", fn := fun _ => fun
  | [d1, d2, d3] => { results := [.lit (.bool false)], args := [d1, d2, d3] }
  | _ => none }
def LayoutWellFormedWrongFalsely : Prop := layoutWellFormedRow.holds Try.pinned (OpenSpec.ofChange layoutWellFormedWrong)

/-- 'parlkeep2.ClosedStar': WHATEVER THE INPUT: true; the input reads as it did. -/
def closedStarSpec : ChangeSpec := { name := "closedStar", fn := fun _ => fun
  | [d1, d2] => { results := [.lit (.bool true)], args := [d1, d2] }
  | _ => none }
def closedStarRow : OpenClaim := { program := "ytkpncpcgkpadgaa", sum := "24a4d5661355674500b3ecb8104bb9dcd74930e00258f974b03fcbbe43cf493b", func := "parlance/parlkeep2.ClosedStar", spec := "closedStar", unfollowed := true, recurses := true, apart := false }
def ClosedStarSaid : Prop := closedStarRow.holds Try.pinned (OpenSpec.ofChange closedStarSpec)

/-- ITS FALSE NEIGHBOUR: 'it returns false'. Refute it at one input. -/
def closedStarWrong : ChangeSpec := { name := "closedStar", fn := fun _ => fun
  | [d1, d2] => { results := [.lit (.bool false)], args := [d1, d2] }
  | _ => none }
def ClosedStarWrongFalsely : Prop := closedStarRow.holds Try.pinned (OpenSpec.ofChange closedStarWrong)

/-- 'parlkeep2.FactorForm': WHATEVER THE INPUT: true; the input reads as it did. -/
def factorFormSpec : ChangeSpec := { name := "factorForm", fn := fun _ => fun
  | [d] => { results := [.lit (.bool true)], args := [d] }
  | _ => none }
def factorFormRow : OpenClaim := { program := "ytkpncpcgkpadgaa", sum := "24a4d5661355674500b3ecb8104bb9dcd74930e00258f974b03fcbbe43cf493b", func := "parlance/parlkeep2.FactorForm", spec := "factorForm", unfollowed := true, recurses := true, apart := false }
def FactorFormSaid : Prop := factorFormRow.holds Try.pinned (OpenSpec.ofChange factorFormSpec)

/-- ITS FALSE NEIGHBOUR: 'it returns false'. Refute it at one input. -/
def factorFormWrong : ChangeSpec := { name := "factorForm", fn := fun _ => fun
  | [d] => { results := [.lit (.bool false)], args := [d] }
  | _ => none }
def FactorFormWrongFalsely : Prop := factorFormRow.holds Try.pinned (OpenSpec.ofChange factorFormWrong)

/-- 'parllaw2.PrecClimbs': WHATEVER THE INPUT: true; the input reads as it did. -/
def precClimbsSpec : ChangeSpec := { name := "precClimbs", fn := fun _ => fun
  | [d1, d2] => { results := [.lit (.bool true)], args := [d1, d2] }
  | _ => none }
def precClimbsRow : OpenClaim := { program := "ytkpncpcgkpadgaa", sum := "24a4d5661355674500b3ecb8104bb9dcd74930e00258f974b03fcbbe43cf493b", func := "parlance/parllaw2.PrecClimbs", spec := "precClimbs", unfollowed := true, recurses := true, apart := false }
def PrecClimbsSaid : Prop := precClimbsRow.holds Try.pinned (OpenSpec.ofChange precClimbsSpec)

/-- ITS FALSE NEIGHBOUR: 'it returns false'. Refute it at one input. -/
def precClimbsWrong : ChangeSpec := { name := "precClimbs", fn := fun _ => fun
  | [d1, d2] => { results := [.lit (.bool false)], args := [d1, d2] }
  | _ => none }
def PrecClimbsWrongFalsely : Prop := precClimbsRow.holds Try.pinned (OpenSpec.ofChange precClimbsWrong)

/-- 'parlkeep2.ClosedConcat': WHATEVER THE INPUT: true; the input reads as it did. -/
def closedConcatSpec : ChangeSpec := { name := "closedConcat", fn := fun _ => fun
  | [d1, d2, d3] => { results := [.lit (.bool true)], args := [d1, d2, d3] }
  | _ => none }
def closedConcatRow : OpenClaim := { program := "ytkpncpcgkpadgaa", sum := "24a4d5661355674500b3ecb8104bb9dcd74930e00258f974b03fcbbe43cf493b", func := "parlance/parlkeep2.ClosedConcat", spec := "closedConcat", unfollowed := true, recurses := true, apart := false }
def ClosedConcatSaid : Prop := closedConcatRow.holds Try.pinned (OpenSpec.ofChange closedConcatSpec)

/-- ITS FALSE NEIGHBOUR: 'it returns false'. Refute it at one input. -/
def closedConcatWrong : ChangeSpec := { name := "closedConcat", fn := fun _ => fun
  | [d1, d2, d3] => { results := [.lit (.bool false)], args := [d1, d2, d3] }
  | _ => none }
def ClosedConcatWrongFalsely : Prop := closedConcatRow.holds Try.pinned (OpenSpec.ofChange closedConcatWrong)

/-- 'parllaw2.PrecTables': WHATEVER THE INPUT: true; the input reads as it did. -/
def precTablesSpec : ChangeSpec := { name := "precTables", fn := fun _ => fun
  | [d] => { results := [.lit (.bool true)], args := [d] }
  | _ => none }
def precTablesRow : OpenClaim := { program := "ytkpncpcgkpadgaa", sum := "24a4d5661355674500b3ecb8104bb9dcd74930e00258f974b03fcbbe43cf493b", func := "parlance/parllaw2.PrecTables", spec := "precTables", unfollowed := true, recurses := true, apart := false }
def PrecTablesSaid : Prop := precTablesRow.holds Try.pinned (OpenSpec.ofChange precTablesSpec)

/-- ITS FALSE NEIGHBOUR: 'it returns false'. Refute it at one input. -/
def precTablesWrong : ChangeSpec := { name := "precTables", fn := fun _ => fun
  | [d] => { results := [.lit (.bool false)], args := [d] }
  | _ => none }
def PrecTablesWrongFalsely : Prop := precTablesRow.holds Try.pinned (OpenSpec.ofChange precTablesWrong)

/-- 'parlkeep2.ClosedPut': WHATEVER THE INPUT: true; the input reads as it did. -/
def closedPutSpec : ChangeSpec := { name := "closedPut", fn := fun _ => fun
  | [d1, d2, d3, d4, d5] => { results := [.lit (.bool true)], args := [d1, d2, d3, d4, d5] }
  | _ => none }
def closedPutRow : OpenClaim := { program := "ytkpncpcgkpadgaa", sum := "24a4d5661355674500b3ecb8104bb9dcd74930e00258f974b03fcbbe43cf493b", func := "parlance/parlkeep2.ClosedPut", spec := "closedPut", unfollowed := true, recurses := true, apart := false }
def ClosedPutSaid : Prop := closedPutRow.holds Try.pinned (OpenSpec.ofChange closedPutSpec)

/-- ITS FALSE NEIGHBOUR: 'it returns false'. Refute it at one input. -/
def closedPutWrong : ChangeSpec := { name := "closedPut", fn := fun _ => fun
  | [d1, d2, d3, d4, d5] => { results := [.lit (.bool false)], args := [d1, d2, d3, d4, d5] }
  | _ => none }
def ClosedPutWrongFalsely : Prop := closedPutRow.holds Try.pinned (OpenSpec.ofChange closedPutWrong)

/-- 'parlkeep2.FirstWords': WHATEVER THE INPUT: true; the input reads as it did. -/
def firstWordsSpec : ChangeSpec := { name := "firstWords", fn := fun _ => fun
  | [d1, d2] => { results := [.lit (.bool true)], args := [d1, d2] }
  | _ => none }
def firstWordsRow : OpenClaim := { program := "ytkpncpcgkpadgaa", sum := "24a4d5661355674500b3ecb8104bb9dcd74930e00258f974b03fcbbe43cf493b", func := "parlance/parlkeep2.FirstWords", spec := "firstWords", unfollowed := true, recurses := true, apart := false }
def FirstWordsSaid : Prop := firstWordsRow.holds Try.pinned (OpenSpec.ofChange firstWordsSpec)

/-- ITS FALSE NEIGHBOUR: 'it returns false'. Refute it at one input. -/
def firstWordsWrong : ChangeSpec := { name := "firstWords", fn := fun _ => fun
  | [d1, d2] => { results := [.lit (.bool false)], args := [d1, d2] }
  | _ => none }
def FirstWordsWrongFalsely : Prop := firstWordsRow.holds Try.pinned (OpenSpec.ofChange firstWordsWrong)

/-- 'parlkeep2.PrecAllowedOnly': WHATEVER THE INPUT: true; the input reads as it did. -/
def precAllowedOnlySpec : ChangeSpec := { name := "precAllowedOnly", fn := fun _ => fun
  | [d1, d2] => { results := [.lit (.bool true)], args := [d1, d2] }
  | _ => none }
def precAllowedOnlyRow : OpenClaim := { program := "ytkpncpcgkpadgaa", sum := "24a4d5661355674500b3ecb8104bb9dcd74930e00258f974b03fcbbe43cf493b", func := "parlance/parlkeep2.PrecAllowedOnly", spec := "precAllowedOnly", unfollowed := true, recurses := true, apart := false }
def PrecAllowedOnlySaid : Prop := precAllowedOnlyRow.holds Try.pinned (OpenSpec.ofChange precAllowedOnlySpec)

/-- ITS FALSE NEIGHBOUR: 'it returns false'. Refute it at one input. -/
def precAllowedOnlyWrong : ChangeSpec := { name := "precAllowedOnly", fn := fun _ => fun
  | [d1, d2] => { results := [.lit (.bool false)], args := [d1, d2] }
  | _ => none }
def PrecAllowedOnlyWrongFalsely : Prop := precAllowedOnlyRow.holds Try.pinned (OpenSpec.ofChange precAllowedOnlyWrong)

/-- 'parlkeep2.UsefulTreesStay': WHATEVER THE INPUT: true; the input reads as it did. -/
def usefulTreesStaySpec : ChangeSpec := { name := "usefulTreesStay", fn := fun _ => fun
  | [d1, d2] => { results := [.lit (.bool true)], args := [d1, d2] }
  | _ => none }
def usefulTreesStayRow : OpenClaim := { program := "ytkpncpcgkpadgaa", sum := "24a4d5661355674500b3ecb8104bb9dcd74930e00258f974b03fcbbe43cf493b", func := "parlance/parlkeep2.UsefulTreesStay", spec := "usefulTreesStay", unfollowed := true, recurses := true, apart := false }
def UsefulTreesStaySaid : Prop := usefulTreesStayRow.holds Try.pinned (OpenSpec.ofChange usefulTreesStaySpec)

/-- ITS FALSE NEIGHBOUR: 'it returns false'. Refute it at one input. -/
def usefulTreesStayWrong : ChangeSpec := { name := "usefulTreesStay", fn := fun _ => fun
  | [d1, d2] => { results := [.lit (.bool false)], args := [d1, d2] }
  | _ => none }
def UsefulTreesStayWrongFalsely : Prop := usefulTreesStayRow.holds Try.pinned (OpenSpec.ofChange usefulTreesStayWrong)

/- THE SECOND FORM. 'bulk': how many values and letters a reading holds, each counted each time it is reached (what is shared counts as often as it is met; a slice's spare places count too). A statement '..UptoSaid' is the law's where the arguments, and the package variables that the reading takes, are together of bulk at most 1048576: NARROWER than '..Said'. Prove '..Said' where nothing that the law and all that it calls make is longer than what came in: it says more and counts as full. Else prove '..UptoSaid'. A law counts once. -/
mutual
def uptoBulk {H : Type} : DataW H → Nat
  | .lit (.string bytes) => bytes.length + 1
  | .lit _ => 1
  | .nil => 1
  | .ptr d => uptoBulk d + 1
  | .slice elems spare => uptoBulkAll elems + uptoBulkAll spare + 1
  | .agg parts => uptoBulkAll parts + 1
  | .iface _ d => uptoBulk d + 1
  | .map entries => uptoBulkEntries entries + 1
  | .held _ => 1
def uptoBulkAll {H : Type} : List (DataW H) → Nat
  | [] => 0
  | d :: r => uptoBulk d + uptoBulkAll r
def uptoBulkEntries {H : Type} : List (Lit × DataW H) → Nat
  | [] => 0
  | x :: r => uptoBulkEntry x + uptoBulkEntries r
def uptoBulkEntry {H : Type} : Lit × DataW H → Nat
  | (.string bytes, d) => bytes.length + uptoBulk d + 1
  | (_, d) => uptoBulk d + 1
 end
def uptoSmall : (H : Type) → List (DataW H) → Bool := fun _ ds => decide (uptoBulkAll ds ≤ 1048576)
def OpenSpec.upto (s : _root_.Go.ChangeSpec) : _root_.Go.OpenSpec := { _root_.Go.OpenSpec.ofChange s with cond := some uptoSmall }

/-- 'parllaw2.GramOrders', WHERE WHAT IT READS IS OF BULK AT MOST 1048576: true; the input reads as it did. -/
def gramOrdersUptoRow : OpenClaim := { program := "ytkpncpcgkpadgaa", sum := "24a4d5661355674500b3ecb8104bb9dcd74930e00258f974b03fcbbe43cf493b", func := "parlance/parllaw2.GramOrders", spec := "gramOrders", unfollowed := true, recurses := true, apart := false, narrowed := true }
def GramOrdersUptoSaid : Prop := gramOrdersUptoRow.holds Try.pinned (OpenSpec.upto gramOrdersSpec)

/-- 'parlkeep2.GramRulesApart', WHERE WHAT IT READS IS OF BULK AT MOST 1048576: true; the input reads as it did. -/
def gramRulesApartUptoRow : OpenClaim := { program := "ytkpncpcgkpadgaa", sum := "24a4d5661355674500b3ecb8104bb9dcd74930e00258f974b03fcbbe43cf493b", func := "parlance/parlkeep2.GramRulesApart", spec := "gramRulesApart", unfollowed := true, recurses := true, apart := false, narrowed := true }
def GramRulesApartUptoSaid : Prop := gramRulesApartUptoRow.holds Try.pinned (OpenSpec.upto gramRulesApartSpec)

/-- 'parlkeep2.LayoutWellFormed', WHERE WHAT IT READS IS OF BULK AT MOST 1048576: true; the input reads as it did. -/
def layoutWellFormedUptoRow : OpenClaim := { program := "ytkpncpcgkpadgaa", sum := "24a4d5661355674500b3ecb8104bb9dcd74930e00258f974b03fcbbe43cf493b", func := "parlance/parlkeep2.LayoutWellFormed", spec := "layoutWellFormed", apart := false, narrowed := true }
def LayoutWellFormedUptoSaid : Prop := layoutWellFormedUptoRow.holds Try.pinned (OpenSpec.upto layoutWellFormedSpec)

/-- 'parlkeep2.ClosedStar', WHERE WHAT IT READS IS OF BULK AT MOST 1048576: true; the input reads as it did. -/
def closedStarUptoRow : OpenClaim := { program := "ytkpncpcgkpadgaa", sum := "24a4d5661355674500b3ecb8104bb9dcd74930e00258f974b03fcbbe43cf493b", func := "parlance/parlkeep2.ClosedStar", spec := "closedStar", unfollowed := true, recurses := true, apart := false, narrowed := true }
def ClosedStarUptoSaid : Prop := closedStarUptoRow.holds Try.pinned (OpenSpec.upto closedStarSpec)

/-- 'parlkeep2.FactorForm', WHERE WHAT IT READS IS OF BULK AT MOST 1048576: true; the input reads as it did. -/
def factorFormUptoRow : OpenClaim := { program := "ytkpncpcgkpadgaa", sum := "24a4d5661355674500b3ecb8104bb9dcd74930e00258f974b03fcbbe43cf493b", func := "parlance/parlkeep2.FactorForm", spec := "factorForm", unfollowed := true, recurses := true, apart := false, narrowed := true }
def FactorFormUptoSaid : Prop := factorFormUptoRow.holds Try.pinned (OpenSpec.upto factorFormSpec)

/-- 'parllaw2.PrecClimbs', WHERE WHAT IT READS IS OF BULK AT MOST 1048576: true; the input reads as it did. -/
def precClimbsUptoRow : OpenClaim := { program := "ytkpncpcgkpadgaa", sum := "24a4d5661355674500b3ecb8104bb9dcd74930e00258f974b03fcbbe43cf493b", func := "parlance/parllaw2.PrecClimbs", spec := "precClimbs", unfollowed := true, recurses := true, apart := false, narrowed := true }
def PrecClimbsUptoSaid : Prop := precClimbsUptoRow.holds Try.pinned (OpenSpec.upto precClimbsSpec)

/-- 'parlkeep2.ClosedConcat', WHERE WHAT IT READS IS OF BULK AT MOST 1048576: true; the input reads as it did. -/
def closedConcatUptoRow : OpenClaim := { program := "ytkpncpcgkpadgaa", sum := "24a4d5661355674500b3ecb8104bb9dcd74930e00258f974b03fcbbe43cf493b", func := "parlance/parlkeep2.ClosedConcat", spec := "closedConcat", unfollowed := true, recurses := true, apart := false, narrowed := true }
def ClosedConcatUptoSaid : Prop := closedConcatUptoRow.holds Try.pinned (OpenSpec.upto closedConcatSpec)

/-- 'parllaw2.PrecTables', WHERE WHAT IT READS IS OF BULK AT MOST 1048576: true; the input reads as it did. -/
def precTablesUptoRow : OpenClaim := { program := "ytkpncpcgkpadgaa", sum := "24a4d5661355674500b3ecb8104bb9dcd74930e00258f974b03fcbbe43cf493b", func := "parlance/parllaw2.PrecTables", spec := "precTables", unfollowed := true, recurses := true, apart := false, narrowed := true }
def PrecTablesUptoSaid : Prop := precTablesUptoRow.holds Try.pinned (OpenSpec.upto precTablesSpec)

/-- 'parlkeep2.ClosedPut', WHERE WHAT IT READS IS OF BULK AT MOST 1048576: true; the input reads as it did. -/
def closedPutUptoRow : OpenClaim := { program := "ytkpncpcgkpadgaa", sum := "24a4d5661355674500b3ecb8104bb9dcd74930e00258f974b03fcbbe43cf493b", func := "parlance/parlkeep2.ClosedPut", spec := "closedPut", unfollowed := true, recurses := true, apart := false, narrowed := true }
def ClosedPutUptoSaid : Prop := closedPutUptoRow.holds Try.pinned (OpenSpec.upto closedPutSpec)

/-- 'parlkeep2.FirstWords', WHERE WHAT IT READS IS OF BULK AT MOST 1048576: true; the input reads as it did. -/
def firstWordsUptoRow : OpenClaim := { program := "ytkpncpcgkpadgaa", sum := "24a4d5661355674500b3ecb8104bb9dcd74930e00258f974b03fcbbe43cf493b", func := "parlance/parlkeep2.FirstWords", spec := "firstWords", unfollowed := true, recurses := true, apart := false, narrowed := true }
def FirstWordsUptoSaid : Prop := firstWordsUptoRow.holds Try.pinned (OpenSpec.upto firstWordsSpec)

/-- 'parlkeep2.PrecAllowedOnly', WHERE WHAT IT READS IS OF BULK AT MOST 1048576: true; the input reads as it did. -/
def precAllowedOnlyUptoRow : OpenClaim := { program := "ytkpncpcgkpadgaa", sum := "24a4d5661355674500b3ecb8104bb9dcd74930e00258f974b03fcbbe43cf493b", func := "parlance/parlkeep2.PrecAllowedOnly", spec := "precAllowedOnly", unfollowed := true, recurses := true, apart := false, narrowed := true }
def PrecAllowedOnlyUptoSaid : Prop := precAllowedOnlyUptoRow.holds Try.pinned (OpenSpec.upto precAllowedOnlySpec)

/-- 'parlkeep2.UsefulTreesStay', WHERE WHAT IT READS IS OF BULK AT MOST 1048576: true; the input reads as it did. -/
def usefulTreesStayUptoRow : OpenClaim := { program := "ytkpncpcgkpadgaa", sum := "24a4d5661355674500b3ecb8104bb9dcd74930e00258f974b03fcbbe43cf493b", func := "parlance/parlkeep2.UsefulTreesStay", spec := "usefulTreesStay", unfollowed := true, recurses := true, apart := false, narrowed := true }
def UsefulTreesStayUptoSaid : Prop := usefulTreesStayUptoRow.holds Try.pinned (OpenSpec.upto usefulTreesStaySpec)

end Rows
end Go.Proofs.Ytkpncpcgkpadgaa
