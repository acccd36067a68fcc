/-
  DERIVED. GIVEN WITH THE SEED: THE CARDS: each row of YtjmpheidcofhnaaDoorRows.lean that lists a variable, with what it lists TIED to the program's text (the seventh form; the later family's looks); each row that meets fmt, with fmt's text TOLD by the authors' own Lean function (tested against real Go, not proved from fmt's source: count such statements apart). THE CARD IS WHAT COUNTS. Prove the row's statement (the work); the ties are given (YtjmpheidcofhnaaDoorTie.lean); close each card by the builder's one call (the guide's Derived/Test/ToyasCard.lean, 'card_holds'). Laid BY PROGRAM, IN A SANDBOX (cutbox-door.mjs). By AI agents, Wed Nov 11 2026. No macro, syntax, notation, axiom, sorry.
-/
import Derived.Test.YtjmpheidcofhnaaDoorRows
import GoSem.ClaimSeven
namespace Go.Proofs.YtjmpheidcofhnaaDoor
namespace Rows

/-- THE TIED CARD OF 'parllaw2.ClosedSays'. -/
def closedSaysCard : Claim7 := { stood := { row := closedSaysRow, standIns := [], harness := (true, "7baa20478d69f4c4cc2623add564fbe427a5c29adf891411423c58d0e0c12ce5"), looks := false }, kinds := [], alts := [], laidByText := true, laidKinds := [.data, .data, .data], laidTests := true, laidLooks := .later }
def ClosedSaysCardSaid : Prop := Claim7.holds Tryd.pinned (.plain (OpenSpec.ofChange closedSaysSpec)) closedSaysCard

/-- THE TIED CARD OF 'parllaw2.GramTrees'. -/
def gramTreesCard : Claim7 := { stood := { row := gramTreesRow, standIns := [], harness := (true, "7baa20478d69f4c4cc2623add564fbe427a5c29adf891411423c58d0e0c12ce5"), looks := false }, kinds := [], alts := [], laidByText := true, laidKinds := [.data, .data, .data], laidTests := true, laidLooks := .later }
def GramTreesCardSaid : Prop := Claim7.holds Tryd.pinned (.plain (OpenSpec.ofChange gramTreesSpec)) gramTreesCard

/-- THE TIED CARD OF 'parllaw2.FactorSays'. -/
def factorSaysCard : Claim7 := { stood := { row := factorSaysRow, standIns := [], harness := (true, "7baa20478d69f4c4cc2623add564fbe427a5c29adf891411423c58d0e0c12ce5"), looks := false }, kinds := [], alts := [], laidByText := true, laidKinds := [.data, .data, .data], laidTests := true, laidLooks := .later }
def FactorSaysCardSaid : Prop := Claim7.holds Tryd.pinned (.plain (OpenSpec.ofChange factorSaysSpec)) factorSaysCard

/-- THE TIED CARD OF 'parllaw2.UsefulSays'. -/
def usefulSaysCard : Claim7 := { stood := { row := usefulSaysRow, standIns := [], harness := (true, "7baa20478d69f4c4cc2623add564fbe427a5c29adf891411423c58d0e0c12ce5"), looks := false }, kinds := [], alts := [], laidByText := true, laidKinds := [.data, .data, .data], laidTests := true, laidLooks := .later }
def UsefulSaysCardSaid : Prop := Claim7.holds Tryd.pinned (.plain (OpenSpec.ofChange usefulSaysSpec)) usefulSaysCard

/-- THE TIED CARD OF 'parllaw2.UsefulTrims'. -/
def usefulTrimsCard : Claim7 := { stood := { row := usefulTrimsRow, standIns := [], harness := (true, "7baa20478d69f4c4cc2623add564fbe427a5c29adf891411423c58d0e0c12ce5"), looks := false }, kinds := [], alts := [], laidByText := true, laidKinds := [.data, .data, .data], laidTests := true, laidLooks := .later }
def UsefulTrimsCardSaid : Prop := Claim7.holds Tryd.pinned (.plain (OpenSpec.ofChange usefulTrimsSpec)) usefulTrimsCard

/-- THE TIED CARD OF 'parllaw2.InlineSays'. -/
def inlineSaysCard : Claim7 := { stood := { row := inlineSaysRow, standIns := [], harness := (true, "7baa20478d69f4c4cc2623add564fbe427a5c29adf891411423c58d0e0c12ce5"), looks := false }, kinds := [], alts := [], laidByText := true, laidKinds := [.data, .data, .data], laidTests := true, laidLooks := .later }
def InlineSaysCardSaid : Prop := Claim7.holds Tryd.pinned (.plain (OpenSpec.ofChange inlineSaysSpec)) inlineSaysCard

/-- THE TIED CARD OF 'parllaw2.FirstSays'. -/
def firstSaysCard : Claim7 := { stood := { row := firstSaysRow, standIns := [], harness := (true, "7baa20478d69f4c4cc2623add564fbe427a5c29adf891411423c58d0e0c12ce5"), looks := false }, kinds := [], alts := [], laidByText := true, laidKinds := [.data, .data, .data], laidTests := true, laidLooks := .later }
def FirstSaysCardSaid : Prop := Claim7.holds Tryd.pinned (.plain (OpenSpec.ofChange firstSaysSpec)) firstSaysCard

/-- THE TIED CARD OF 'parllaw2.FollowSays'. -/
def followSaysCard : Claim7 := { stood := { row := followSaysRow, standIns := [], harness := (true, "7baa20478d69f4c4cc2623add564fbe427a5c29adf891411423c58d0e0c12ce5"), looks := false }, kinds := [], alts := [], laidByText := true, laidKinds := [.data, .data, .data], laidTests := true, laidLooks := .later }
def FollowSaysCardSaid : Prop := Claim7.holds Tryd.pinned (.plain (OpenSpec.ofChange followSaysSpec)) followSaysCard

/-- THE TIED CARD OF 'parllaw2.CycleSays'. -/
def cycleSaysCard : Claim7 := { stood := { row := cycleSaysRow, standIns := [], harness := (true, "7baa20478d69f4c4cc2623add564fbe427a5c29adf891411423c58d0e0c12ce5"), looks := false }, kinds := [], alts := [], laidByText := true, laidKinds := [.data, .data, .data], laidTests := true, laidLooks := .later }
def CycleSaysCardSaid : Prop := Claim7.holds Tryd.pinned (.plain (OpenSpec.ofChange cycleSaysSpec)) cycleSaysCard

/-- THE TIED CARD OF 'parllaw2.ClosedPuts'. -/
def closedPutsCard : Claim7 := { stood := { row := closedPutsRow, standIns := [], harness := (true, "7baa20478d69f4c4cc2623add564fbe427a5c29adf891411423c58d0e0c12ce5"), looks := false }, kinds := [], alts := [], laidByText := true, laidKinds := [.data, .data, .data], laidTests := true, laidLooks := .later }
def ClosedPutsCardSaid : Prop := Claim7.holds Tryd.pinned (.plain (OpenSpec.ofChange closedPutsSpec)) closedPutsCard

/-- THE TIED CARD OF 'parllaw2.LeftrecSays'. -/
def leftrecSaysCard : Claim7 := { stood := { row := leftrecSaysRow, standIns := [], harness := (true, "7baa20478d69f4c4cc2623add564fbe427a5c29adf891411423c58d0e0c12ce5"), looks := false }, kinds := [], alts := [], laidByText := true, laidKinds := [.data, .data, .data], laidTests := true, laidLooks := .later }
def LeftrecSaysCardSaid : Prop := Claim7.holds Tryd.pinned (.plain (OpenSpec.ofChange leftrecSaysSpec)) leftrecSaysCard

/-- THE TIED CARD OF 'parllaw2.InlineMaps'. -/
def inlineMapsCard : Claim7 := { stood := { row := inlineMapsRow, standIns := [], harness := (true, "7baa20478d69f4c4cc2623add564fbe427a5c29adf891411423c58d0e0c12ce5"), looks := false }, kinds := [], alts := [], laidByText := true, laidKinds := [.data, .data, .data], laidTests := true, laidLooks := .later }
def InlineMapsCardSaid : Prop := Claim7.holds Tryd.pinned (.plain (OpenSpec.ofChange inlineMapsSpec)) inlineMapsCard

/-- THE SECOND FORM's CARD OF 'parllaw2.ClosedSays'. -/
def closedSaysUptoCard : Claim7 := { stood := { row := closedSaysUptoRow, standIns := [], harness := (true, "7baa20478d69f4c4cc2623add564fbe427a5c29adf891411423c58d0e0c12ce5"), looks := false }, kinds := [], alts := [], laidByText := true, laidKinds := [.data, .data, .data], laidTests := true, laidLooks := .later }
def ClosedSaysUptoCardSaid : Prop := Claim7.holds Tryd.pinned (.plain (OpenSpec.upto closedSaysSpec)) closedSaysUptoCard

/-- THE SECOND FORM's CARD OF 'parllaw2.GramTrees'. -/
def gramTreesUptoCard : Claim7 := { stood := { row := gramTreesUptoRow, standIns := [], harness := (true, "7baa20478d69f4c4cc2623add564fbe427a5c29adf891411423c58d0e0c12ce5"), looks := false }, kinds := [], alts := [], laidByText := true, laidKinds := [.data, .data, .data], laidTests := true, laidLooks := .later }
def GramTreesUptoCardSaid : Prop := Claim7.holds Tryd.pinned (.plain (OpenSpec.upto gramTreesSpec)) gramTreesUptoCard

/-- THE SECOND FORM's CARD OF 'parllaw2.FactorSays'. -/
def factorSaysUptoCard : Claim7 := { stood := { row := factorSaysUptoRow, standIns := [], harness := (true, "7baa20478d69f4c4cc2623add564fbe427a5c29adf891411423c58d0e0c12ce5"), looks := false }, kinds := [], alts := [], laidByText := true, laidKinds := [.data, .data, .data], laidTests := true, laidLooks := .later }
def FactorSaysUptoCardSaid : Prop := Claim7.holds Tryd.pinned (.plain (OpenSpec.upto factorSaysSpec)) factorSaysUptoCard

/-- THE SECOND FORM's CARD OF 'parllaw2.UsefulSays'. -/
def usefulSaysUptoCard : Claim7 := { stood := { row := usefulSaysUptoRow, standIns := [], harness := (true, "7baa20478d69f4c4cc2623add564fbe427a5c29adf891411423c58d0e0c12ce5"), looks := false }, kinds := [], alts := [], laidByText := true, laidKinds := [.data, .data, .data], laidTests := true, laidLooks := .later }
def UsefulSaysUptoCardSaid : Prop := Claim7.holds Tryd.pinned (.plain (OpenSpec.upto usefulSaysSpec)) usefulSaysUptoCard

/-- THE SECOND FORM's CARD OF 'parllaw2.UsefulTrims'. -/
def usefulTrimsUptoCard : Claim7 := { stood := { row := usefulTrimsUptoRow, standIns := [], harness := (true, "7baa20478d69f4c4cc2623add564fbe427a5c29adf891411423c58d0e0c12ce5"), looks := false }, kinds := [], alts := [], laidByText := true, laidKinds := [.data, .data, .data], laidTests := true, laidLooks := .later }
def UsefulTrimsUptoCardSaid : Prop := Claim7.holds Tryd.pinned (.plain (OpenSpec.upto usefulTrimsSpec)) usefulTrimsUptoCard

/-- THE SECOND FORM's CARD OF 'parllaw2.InlineSays'. -/
def inlineSaysUptoCard : Claim7 := { stood := { row := inlineSaysUptoRow, standIns := [], harness := (true, "7baa20478d69f4c4cc2623add564fbe427a5c29adf891411423c58d0e0c12ce5"), looks := false }, kinds := [], alts := [], laidByText := true, laidKinds := [.data, .data, .data], laidTests := true, laidLooks := .later }
def InlineSaysUptoCardSaid : Prop := Claim7.holds Tryd.pinned (.plain (OpenSpec.upto inlineSaysSpec)) inlineSaysUptoCard

/-- THE SECOND FORM's CARD OF 'parllaw2.FirstSays'. -/
def firstSaysUptoCard : Claim7 := { stood := { row := firstSaysUptoRow, standIns := [], harness := (true, "7baa20478d69f4c4cc2623add564fbe427a5c29adf891411423c58d0e0c12ce5"), looks := false }, kinds := [], alts := [], laidByText := true, laidKinds := [.data, .data, .data], laidTests := true, laidLooks := .later }
def FirstSaysUptoCardSaid : Prop := Claim7.holds Tryd.pinned (.plain (OpenSpec.upto firstSaysSpec)) firstSaysUptoCard

/-- THE SECOND FORM's CARD OF 'parllaw2.FollowSays'. -/
def followSaysUptoCard : Claim7 := { stood := { row := followSaysUptoRow, standIns := [], harness := (true, "7baa20478d69f4c4cc2623add564fbe427a5c29adf891411423c58d0e0c12ce5"), looks := false }, kinds := [], alts := [], laidByText := true, laidKinds := [.data, .data, .data], laidTests := true, laidLooks := .later }
def FollowSaysUptoCardSaid : Prop := Claim7.holds Tryd.pinned (.plain (OpenSpec.upto followSaysSpec)) followSaysUptoCard

/-- THE SECOND FORM's CARD OF 'parllaw2.CycleSays'. -/
def cycleSaysUptoCard : Claim7 := { stood := { row := cycleSaysUptoRow, standIns := [], harness := (true, "7baa20478d69f4c4cc2623add564fbe427a5c29adf891411423c58d0e0c12ce5"), looks := false }, kinds := [], alts := [], laidByText := true, laidKinds := [.data, .data, .data], laidTests := true, laidLooks := .later }
def CycleSaysUptoCardSaid : Prop := Claim7.holds Tryd.pinned (.plain (OpenSpec.upto cycleSaysSpec)) cycleSaysUptoCard

/-- THE SECOND FORM's CARD OF 'parllaw2.ClosedPuts'. -/
def closedPutsUptoCard : Claim7 := { stood := { row := closedPutsUptoRow, standIns := [], harness := (true, "7baa20478d69f4c4cc2623add564fbe427a5c29adf891411423c58d0e0c12ce5"), looks := false }, kinds := [], alts := [], laidByText := true, laidKinds := [.data, .data, .data], laidTests := true, laidLooks := .later }
def ClosedPutsUptoCardSaid : Prop := Claim7.holds Tryd.pinned (.plain (OpenSpec.upto closedPutsSpec)) closedPutsUptoCard

/-- THE SECOND FORM's CARD OF 'parllaw2.LeftrecSays'. -/
def leftrecSaysUptoCard : Claim7 := { stood := { row := leftrecSaysUptoRow, standIns := [], harness := (true, "7baa20478d69f4c4cc2623add564fbe427a5c29adf891411423c58d0e0c12ce5"), looks := false }, kinds := [], alts := [], laidByText := true, laidKinds := [.data, .data, .data], laidTests := true, laidLooks := .later }
def LeftrecSaysUptoCardSaid : Prop := Claim7.holds Tryd.pinned (.plain (OpenSpec.upto leftrecSaysSpec)) leftrecSaysUptoCard

/-- THE SECOND FORM's CARD OF 'parllaw2.InlineMaps'. -/
def inlineMapsUptoCard : Claim7 := { stood := { row := inlineMapsUptoRow, standIns := [], harness := (true, "7baa20478d69f4c4cc2623add564fbe427a5c29adf891411423c58d0e0c12ce5"), looks := false }, kinds := [], alts := [], laidByText := true, laidKinds := [.data, .data, .data], laidTests := true, laidLooks := .later }
def InlineMapsUptoCardSaid : Prop := Claim7.holds Tryd.pinned (.plain (OpenSpec.upto inlineMapsSpec)) inlineMapsUptoCard
end Rows
end Go.Proofs.YtjmpheidcofhnaaDoor
