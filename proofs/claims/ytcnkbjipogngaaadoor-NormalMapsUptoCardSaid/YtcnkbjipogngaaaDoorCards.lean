/-
  DERIVED. GIVEN WITH THE SEED: THE CARDS: each row of YtcnkbjipogngaaaDoorRows.lean that lists a variable, with what it lists TIED to the program's text (the seventh form; the later family's looks); each row that meets fmt, with fmt's text TOLD by the authors' own Lean function (tested against real Go, not proved from fmt's source: count such statements apart). THE CARD IS WHAT COUNTS. Prove the row's statement (the work); the ties are given (YtcnkbjipogngaaaDoorTie.lean); close each card by the builder's one call (the guide's Derived/Test/ToyasCard.lean, 'card_holds'). Laid BY PROGRAM, IN A SANDBOX (cutbox-door.mjs). By AI agents, Wed Nov 11 2026. No macro, syntax, notation, axiom, sorry.
-/
import Derived.Test.YtcnkbjipogngaaaDoorRows
import GoSem.ClaimSeven
namespace Go.Proofs.YtcnkbjipogngaaaDoor
namespace Rows

/-- THE TIED CARD OF 'parllaw2.NormalSays'. -/
def normalSaysCard : Claim7 := { stood := { row := normalSaysRow, standIns := [], harness := (true, "ef2d6c7390935ba84c274240116ec2d5e54be8fac8bc4f9f7627aa2dac856df5"), looks := false }, kinds := [], alts := [], laidByText := true, laidKinds := [.data, .data, .data], laidTests := true, laidLooks := .later }
def NormalSaysCardSaid : Prop := Claim7.holds Tryd.pinned (.plain (OpenSpec.ofChange normalSaysSpec)) normalSaysCard

/-- THE TIED CARD OF 'parllaw2.NormalMaps'. -/
def normalMapsCard : Claim7 := { stood := { row := normalMapsRow, standIns := [], harness := (true, "ef2d6c7390935ba84c274240116ec2d5e54be8fac8bc4f9f7627aa2dac856df5"), looks := false }, kinds := [], alts := [], laidByText := true, laidKinds := [.data, .data, .data], laidTests := true, laidLooks := .later }
def NormalMapsCardSaid : Prop := Claim7.holds Tryd.pinned (.plain (OpenSpec.ofChange normalMapsSpec)) normalMapsCard

/-- THE TIED CARD OF 'parllaw2.LayoutLines'. -/
def layoutLinesCard : Claim7 := { stood := { row := layoutLinesRow, standIns := [], harness := (true, "ef2d6c7390935ba84c274240116ec2d5e54be8fac8bc4f9f7627aa2dac856df5"), looks := false }, kinds := [], alts := [], laidByText := true, laidKinds := [.data, .pinned], laidTests := true, laidLooks := .later }
def LayoutLinesCardSaid : Prop := Claim7.holds Tryd.pinned (.plain (OpenSpec.ofChange layoutLinesSpec)) layoutLinesCard

/-- THE SECOND FORM's CARD OF 'parllaw2.NormalSays'. -/
def normalSaysUptoCard : Claim7 := { stood := { row := normalSaysUptoRow, standIns := [], harness := (true, "ef2d6c7390935ba84c274240116ec2d5e54be8fac8bc4f9f7627aa2dac856df5"), looks := false }, kinds := [], alts := [], laidByText := true, laidKinds := [.data, .data, .data], laidTests := true, laidLooks := .later }
def NormalSaysUptoCardSaid : Prop := Claim7.holds Tryd.pinned (.plain (OpenSpec.upto normalSaysSpec)) normalSaysUptoCard

/-- THE SECOND FORM's CARD OF 'parllaw2.NormalMaps'. -/
def normalMapsUptoCard : Claim7 := { stood := { row := normalMapsUptoRow, standIns := [], harness := (true, "ef2d6c7390935ba84c274240116ec2d5e54be8fac8bc4f9f7627aa2dac856df5"), looks := false }, kinds := [], alts := [], laidByText := true, laidKinds := [.data, .data, .data], laidTests := true, laidLooks := .later }
def NormalMapsUptoCardSaid : Prop := Claim7.holds Tryd.pinned (.plain (OpenSpec.upto normalMapsSpec)) normalMapsUptoCard

/-- THE SECOND FORM's CARD OF 'parllaw2.LayoutLines'. -/
def layoutLinesUptoCard : Claim7 := { stood := { row := layoutLinesUptoRow, standIns := [], harness := (true, "ef2d6c7390935ba84c274240116ec2d5e54be8fac8bc4f9f7627aa2dac856df5"), looks := false }, kinds := [], alts := [], laidByText := true, laidKinds := [.data, .pinned], laidTests := true, laidLooks := .later }
def LayoutLinesUptoCardSaid : Prop := Claim7.holds Tryd.pinned (.plain (OpenSpec.upto layoutLinesSpec)) layoutLinesUptoCard
end Rows
end Go.Proofs.YtcnkbjipogngaaaDoor
