/-
  DERIVED. GIVEN WITH THE SEED: THE CARDS: each row of YtcegdomfmamonaaDoorRows.lean that lists a variable, with what it lists TIED to the program's text (the seventh form; the later family's looks); each row that meets fmt, with fmt's text TOLD by the authors' own Lean function (tested against real Go, not proved from fmt's source: count such statements apart). THE CARD IS WHAT COUNTS. Prove the row's statement (the work); the ties are given (YtcegdomfmamonaaDoorTie.lean); close each card by the builder's one call (the guide's Derived/Test/ToyasCard.lean, 'card_holds'). Laid BY PROGRAM, IN A SANDBOX (cutbox-door.mjs). By AI agents, Wed Nov 11 2026. No macro, syntax, notation, axiom, sorry.
-/
import Derived.Test.YtcegdomfmamonaaDoorRows
import GoSem.ClaimSeven
namespace Go.Proofs.YtcegdomfmamonaaDoor
namespace Rows

/-- THE TIED CARD OF 'emberslaw07.TermChecks'. -/
def termChecksCard : Claim7 := { stood := { row := termChecksRow, standIns := [], harness := (true, "9e29555cd5a2041a20c962e977f2d56725f30a37e44f7d56e19a20750ac42c14"), looks := false }, kinds := [], alts := [], laidByText := true, laidKinds := [.data, .data, .data], laidTests := true, laidLooks := .later }
def TermChecksCardSaid : Prop := Claim7.holds Tryd.pinned (.plain (OpenSpec.ofChange termChecksSpec)) termChecksCard

/-- THE TIED CARD OF 'emberslaw07.TermLine'. -/
def termLineCard : Claim7 := { stood := { row := termLineRow, standIns := [], harness := (true, "9e29555cd5a2041a20c962e977f2d56725f30a37e44f7d56e19a20750ac42c14"), looks := false }, kinds := [], alts := [], laidByText := true, laidKinds := [.data, .data, .data], laidTests := true, laidLooks := .later }
def TermLineCardSaid : Prop := Claim7.holds Tryd.pinned (.plain (OpenSpec.ofChange termLineSpec)) termLineCard

/-- THE TIED CARD OF 'emberslaw07.TermTexts'. -/
def termTextsCard : Claim7 := { stood := { row := termTextsRow, standIns := [], harness := (true, "9e29555cd5a2041a20c962e977f2d56725f30a37e44f7d56e19a20750ac42c14"), looks := false }, kinds := [], alts := [], laidByText := true, laidKinds := [.data, .data, .data], laidTests := true, laidLooks := .later }
def TermTextsCardSaid : Prop := Claim7.holds Tryd.pinned (.plain (OpenSpec.ofChange termTextsSpec)) termTextsCard

/-- THE TIED CARD OF 'emberslaw07.TermOrders'. -/
def termOrdersCard : Claim7 := { stood := { row := termOrdersRow, standIns := [], harness := (true, "9e29555cd5a2041a20c962e977f2d56725f30a37e44f7d56e19a20750ac42c14"), looks := false }, kinds := [], alts := [], laidByText := true, laidKinds := [.data, .data, .data], laidTests := true, laidLooks := .later }
def TermOrdersCardSaid : Prop := Claim7.holds Tryd.pinned (.plain (OpenSpec.ofChange termOrdersSpec)) termOrdersCard

/-- THE TIED CARD OF 'emberslaw07.TermParts'. -/
def termPartsCard : Claim7 := { stood := { row := termPartsRow, standIns := [], harness := (true, "9e29555cd5a2041a20c962e977f2d56725f30a37e44f7d56e19a20750ac42c14"), looks := false }, kinds := [], alts := [], laidByText := true, laidKinds := [.data, .data, .data], laidTests := true, laidLooks := .later }
def TermPartsCardSaid : Prop := Claim7.holds Tryd.pinned (.plain (OpenSpec.ofChange termPartsSpec)) termPartsCard

/-- THE SECOND FORM's CARD OF 'emberslaw07.TermChecks'. -/
def termChecksUptoCard : Claim7 := { stood := { row := termChecksUptoRow, standIns := [], harness := (true, "9e29555cd5a2041a20c962e977f2d56725f30a37e44f7d56e19a20750ac42c14"), looks := false }, kinds := [], alts := [], laidByText := true, laidKinds := [.data, .data, .data], laidTests := true, laidLooks := .later }
def TermChecksUptoCardSaid : Prop := Claim7.holds Tryd.pinned (.plain (OpenSpec.upto termChecksSpec)) termChecksUptoCard

/-- THE SECOND FORM's CARD OF 'emberslaw07.TermLine'. -/
def termLineUptoCard : Claim7 := { stood := { row := termLineUptoRow, standIns := [], harness := (true, "9e29555cd5a2041a20c962e977f2d56725f30a37e44f7d56e19a20750ac42c14"), looks := false }, kinds := [], alts := [], laidByText := true, laidKinds := [.data, .data, .data], laidTests := true, laidLooks := .later }
def TermLineUptoCardSaid : Prop := Claim7.holds Tryd.pinned (.plain (OpenSpec.upto termLineSpec)) termLineUptoCard

/-- THE SECOND FORM's CARD OF 'emberslaw07.TermTexts'. -/
def termTextsUptoCard : Claim7 := { stood := { row := termTextsUptoRow, standIns := [], harness := (true, "9e29555cd5a2041a20c962e977f2d56725f30a37e44f7d56e19a20750ac42c14"), looks := false }, kinds := [], alts := [], laidByText := true, laidKinds := [.data, .data, .data], laidTests := true, laidLooks := .later }
def TermTextsUptoCardSaid : Prop := Claim7.holds Tryd.pinned (.plain (OpenSpec.upto termTextsSpec)) termTextsUptoCard

/-- THE SECOND FORM's CARD OF 'emberslaw07.TermOrders'. -/
def termOrdersUptoCard : Claim7 := { stood := { row := termOrdersUptoRow, standIns := [], harness := (true, "9e29555cd5a2041a20c962e977f2d56725f30a37e44f7d56e19a20750ac42c14"), looks := false }, kinds := [], alts := [], laidByText := true, laidKinds := [.data, .data, .data], laidTests := true, laidLooks := .later }
def TermOrdersUptoCardSaid : Prop := Claim7.holds Tryd.pinned (.plain (OpenSpec.upto termOrdersSpec)) termOrdersUptoCard

/-- THE SECOND FORM's CARD OF 'emberslaw07.TermParts'. -/
def termPartsUptoCard : Claim7 := { stood := { row := termPartsUptoRow, standIns := [], harness := (true, "9e29555cd5a2041a20c962e977f2d56725f30a37e44f7d56e19a20750ac42c14"), looks := false }, kinds := [], alts := [], laidByText := true, laidKinds := [.data, .data, .data], laidTests := true, laidLooks := .later }
def TermPartsUptoCardSaid : Prop := Claim7.holds Tryd.pinned (.plain (OpenSpec.upto termPartsSpec)) termPartsUptoCard
end Rows
end Go.Proofs.YtcegdomfmamonaaDoor
