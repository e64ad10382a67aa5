/-
  DERIVED. GIVEN WITH THE SEED: THE CARDS: each row of YtiiklakfelbjfaaDoorRows.lean that lists a variable, with what it lists TIED to the program's text (the seventh form; the later family's looks); each row that meets fmt, with fmt's text TOLD by the authors' own Lean function (tested against real Go, not proved from fmt's source: count such statements apart). THE CARD IS WHAT COUNTS. Prove the row's statement (the work); the ties are given (YtiiklakfelbjfaaDoorTie.lean); close each card by the builder's one call (the guide's Derived/Test/ToyasCard.lean, 'card_holds'). Laid BY PROGRAM, IN A SANDBOX (cutbox-door.mjs). By AI agents, Wed Nov 11 2026. No macro, syntax, notation, axiom, sorry.
-/
import Derived.Test.YtiiklakfelbjfaaDoorRows
import GoSem.ClaimSeven
namespace Go.Proofs.YtiiklakfelbjfaaDoor
namespace Rows

/-- THE TIED CARD OF 'emberslaw10.ScanSpaces'. -/
def scanSpacesCard : Claim7 := { stood := { row := scanSpacesRow, standIns := [], harness := (true, "4f7285ab4188cad963aa94d30ad73d7c82748dca5e6e7cbac9c3ecb79d19d5ec"), looks := true }, kinds := [], alts := [], laidByText := true, laidKinds := [.data, .data, .data, .sentinel, .sentinel], laidTests := true, laidLooks := .later }
def ScanSpacesCardSaid : Prop := Claim7.holds Tryd.pinned (.plain (OpenSpec.ofChange scanSpacesSpec)) scanSpacesCard

/-- THE TIED CARD OF 'emberslaw10.ScanPrints'. -/
def scanPrintsCard : Claim7 := { stood := { row := scanPrintsRow, standIns := [], harness := (true, "4f7285ab4188cad963aa94d30ad73d7c82748dca5e6e7cbac9c3ecb79d19d5ec"), looks := true }, kinds := [], alts := [], laidByText := true, laidKinds := [.data, .data, .data, .sentinel, .sentinel], laidTests := true, laidLooks := .later }
def ScanPrintsCardSaid : Prop := Claim7.holds Tryd.pinned (.plain (OpenSpec.ofChange scanPrintsSpec)) scanPrintsCard

/-- THE TIED CARD OF 'emberslaw10.ScanBack'. -/
def scanBackCard : Claim7 := { stood := { row := scanBackRow, standIns := [], harness := (true, "4f7285ab4188cad963aa94d30ad73d7c82748dca5e6e7cbac9c3ecb79d19d5ec"), looks := true }, kinds := [], alts := [], laidByText := true, laidKinds := [.data, .data, .data, .sentinel, .sentinel], laidTests := true, laidLooks := .later }
def ScanBackCardSaid : Prop := Claim7.holds Tryd.pinned (.plain (OpenSpec.ofChange scanBackSpec)) scanBackCard

/-- THE SECOND FORM's CARD OF 'emberslaw10.ScanSpaces'. -/
def scanSpacesUptoCard : Claim7 := { stood := { row := scanSpacesUptoRow, standIns := [], harness := (true, "4f7285ab4188cad963aa94d30ad73d7c82748dca5e6e7cbac9c3ecb79d19d5ec"), looks := true }, kinds := [], alts := [], laidByText := true, laidKinds := [.data, .data, .data, .sentinel, .sentinel], laidTests := true, laidLooks := .later }
def ScanSpacesUptoCardSaid : Prop := Claim7.holds Tryd.pinned (.plain (OpenSpec.upto scanSpacesSpec)) scanSpacesUptoCard

/-- THE SECOND FORM's CARD OF 'emberslaw10.ScanPrints'. -/
def scanPrintsUptoCard : Claim7 := { stood := { row := scanPrintsUptoRow, standIns := [], harness := (true, "4f7285ab4188cad963aa94d30ad73d7c82748dca5e6e7cbac9c3ecb79d19d5ec"), looks := true }, kinds := [], alts := [], laidByText := true, laidKinds := [.data, .data, .data, .sentinel, .sentinel], laidTests := true, laidLooks := .later }
def ScanPrintsUptoCardSaid : Prop := Claim7.holds Tryd.pinned (.plain (OpenSpec.upto scanPrintsSpec)) scanPrintsUptoCard

/-- THE SECOND FORM's CARD OF 'emberslaw10.ScanBack'. -/
def scanBackUptoCard : Claim7 := { stood := { row := scanBackUptoRow, standIns := [], harness := (true, "4f7285ab4188cad963aa94d30ad73d7c82748dca5e6e7cbac9c3ecb79d19d5ec"), looks := true }, kinds := [], alts := [], laidByText := true, laidKinds := [.data, .data, .data, .sentinel, .sentinel], laidTests := true, laidLooks := .later }
def ScanBackUptoCardSaid : Prop := Claim7.holds Tryd.pinned (.plain (OpenSpec.upto scanBackSpec)) scanBackUptoCard
end Rows
end Go.Proofs.YtiiklakfelbjfaaDoor
