/-
  DERIVED. GIVEN WITH THE SEED: THE CARDS: each row of YtekiknmhlfiemaaDoorRows.lean that lists a variable, with what it lists TIED to the program's text (the seventh form; the later family's looks); each row that meets fmt, with fmt's text TOLD by the authors' own Lean function (tested against real Go, not proved from fmt's source: count such statements apart). THE CARD IS WHAT COUNTS. Prove the row's statement (the work); the ties are given (YtekiknmhlfiemaaDoorTie.lean); close each card by the builder's one call (the guide's Derived/Test/ToyasCard.lean, 'card_holds'). Laid BY PROGRAM, IN A SANDBOX (cutbox-door.mjs). By AI agents, Wed Nov 11 2026. No macro, syntax, notation, axiom, sorry.
-/
import Derived.Test.YtekiknmhlfiemaaDoorRows
import GoSem.ClaimSeven
namespace Go.Proofs.YtekiknmhlfiemaaDoor
namespace Rows

/-- THE TIED CARD OF 'parllaw2.FactorMaps'. -/
def factorMapsCard : Claim7 := { stood := { row := factorMapsRow, standIns := [], harness := (true, "0bff19e962a027bc1b54380effa12b3c45b91773e3b30d3b80d079bd7b9c987c"), looks := false }, kinds := [], alts := [], laidByText := true, laidKinds := [.data, .data, .data], laidTests := true, laidLooks := .later }
def FactorMapsCardSaid : Prop := Claim7.holds Tryd.pinned (.plain (OpenSpec.ofChange factorMapsSpec)) factorMapsCard

/-- THE TIED CARD OF 'parllaw2.LeftrecMaps'. -/
def leftrecMapsCard : Claim7 := { stood := { row := leftrecMapsRow, standIns := [], harness := (true, "0bff19e962a027bc1b54380effa12b3c45b91773e3b30d3b80d079bd7b9c987c"), looks := false }, kinds := [], alts := [], laidByText := true, laidKinds := [.data, .data, .data], laidTests := true, laidLooks := .later }
def LeftrecMapsCardSaid : Prop := Claim7.holds Tryd.pinned (.plain (OpenSpec.ofChange leftrecMapsSpec)) leftrecMapsCard

/-- THE SECOND FORM's CARD OF 'parllaw2.FactorMaps'. -/
def factorMapsUptoCard : Claim7 := { stood := { row := factorMapsUptoRow, standIns := [], harness := (true, "0bff19e962a027bc1b54380effa12b3c45b91773e3b30d3b80d079bd7b9c987c"), looks := false }, kinds := [], alts := [], laidByText := true, laidKinds := [.data, .data, .data], laidTests := true, laidLooks := .later }
def FactorMapsUptoCardSaid : Prop := Claim7.holds Tryd.pinned (.plain (OpenSpec.upto factorMapsSpec)) factorMapsUptoCard

/-- THE SECOND FORM's CARD OF 'parllaw2.LeftrecMaps'. -/
def leftrecMapsUptoCard : Claim7 := { stood := { row := leftrecMapsUptoRow, standIns := [], harness := (true, "0bff19e962a027bc1b54380effa12b3c45b91773e3b30d3b80d079bd7b9c987c"), looks := false }, kinds := [], alts := [], laidByText := true, laidKinds := [.data, .data, .data], laidTests := true, laidLooks := .later }
def LeftrecMapsUptoCardSaid : Prop := Claim7.holds Tryd.pinned (.plain (OpenSpec.upto leftrecMapsSpec)) leftrecMapsUptoCard
end Rows
end Go.Proofs.YtekiknmhlfiemaaDoor
