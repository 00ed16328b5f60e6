/-
  DERIVED. GIVEN WITH THE SEED: THE CARDS: each row of YtjomnmoekchfeaaGreatDoorRows.lean that lists a variable, with what it lists TIED to the program's text (the seventh form; the later family's looks); each row that meets fmt, with fmt's text TOLD by the authors' own Lean function (tested against real Go, not proved from fmt's source: count such statements apart). THE CARD IS WHAT COUNTS. Prove the row's statement (the work); the ties are given (YtjomnmoekchfeaaGreatDoorTie.lean); close each card by the builder's one call (the guide's Derived/Test/ToyasCard.lean, 'card_holds'). Laid BY PROGRAM, IN A SANDBOX (cutbox-door.mjs). By AI agents, Wed Nov 11 2026. No macro, syntax, notation, axiom, sorry.
-/
import Derived.Test.YtjomnmoekchfeaaGreatDoorRows
import GoSem.ClaimSeven
namespace Go.Proofs.YtjomnmoekchfeaaGreatDoor
namespace Rows

/-- THE TIED CARD OF 'laws.FnTop'. -/
def fnTopCard : Claim7 := { stood := { row := fnTopRow, standIns := [], harness := (true, "a319c41cac356734fc2caf88c5c821ff2fdc6b0eedc44b5ac5a546b7eedaf583"), looks := false }, kinds := [], alts := [], laidByText := true, laidKinds := [.data, .data, .data, .data, .pinned], laidTests := true, laidLooks := .later }
def FnTopCardSaid : Prop := Claim7.holds Tryz.pinned (.plain (OpenSpec.ofChange fnTopSpec)) fnTopCard

/-- THE TIED CARD OF 'laws.FnSecondsSailed'. -/
def fnSecondsSailedCard : Claim7 := { stood := { row := fnSecondsSailedRow, standIns := [], harness := (true, "a319c41cac356734fc2caf88c5c821ff2fdc6b0eedc44b5ac5a546b7eedaf583"), looks := false }, kinds := [], alts := [], laidByText := true, laidKinds := [.data, .data, .data, .data, .pinned], laidTests := true, laidLooks := .later }
def FnSecondsSailedCardSaid : Prop := Claim7.holds Tryz.pinned (.plain (OpenSpec.ofChange fnSecondsSailedSpec)) fnSecondsSailedCard

/-- THE TIED CARD OF 'laws.FnSailSet'. -/
def fnSailSetCard : Claim7 := { stood := { row := fnSailSetRow, standIns := [], harness := (true, "a319c41cac356734fc2caf88c5c821ff2fdc6b0eedc44b5ac5a546b7eedaf583"), looks := false }, kinds := [], alts := [], laidByText := true, laidKinds := [.data, .data, .data, .data, .pinned], laidTests := true, laidLooks := .later }
def FnSailSetCardSaid : Prop := Claim7.holds Tryz.pinned (.plain (OpenSpec.ofChange fnSailSetSpec)) fnSailSetCard

/-- THE TIED CARD OF 'laws.FnReportFields'. -/
def fnReportFieldsCard : Claim7 := { stood := { row := fnReportFieldsRow, standIns := [], harness := (true, "a319c41cac356734fc2caf88c5c821ff2fdc6b0eedc44b5ac5a546b7eedaf583"), looks := false }, kinds := [], alts := [], laidByText := true, laidKinds := [.data, .data, .data, .data, .pinned], laidTests := true, laidLooks := .later }
def FnReportFieldsCardSaid : Prop := Claim7.holds Tryz.pinned (.plain (OpenSpec.ofChange fnReportFieldsSpec)) fnReportFieldsCard

/-- THE TIED CARD OF 'laws.FnRefused'. -/
def fnRefusedCard : Claim7 := { stood := { row := fnRefusedRow, standIns := [], harness := (true, "a319c41cac356734fc2caf88c5c821ff2fdc6b0eedc44b5ac5a546b7eedaf583"), looks := false }, kinds := [], alts := [], laidByText := true, laidKinds := [.data, .data, .data, .data, .pinned], laidTests := true, laidLooks := .later }
def FnRefusedCardSaid : Prop := Claim7.holds Tryz.pinned (.plain (OpenSpec.ofChange fnRefusedSpec)) fnRefusedCard

/-- THE SECOND FORM's CARD OF 'laws.FnTop'. -/
def fnTopUptoCard : Claim7 := { stood := { row := fnTopUptoRow, standIns := [], harness := (true, "a319c41cac356734fc2caf88c5c821ff2fdc6b0eedc44b5ac5a546b7eedaf583"), looks := false }, kinds := [], alts := [], laidByText := true, laidKinds := [.data, .data, .data, .data, .pinned], laidTests := true, laidLooks := .later }
def FnTopUptoCardSaid : Prop := Claim7.holds Tryz.pinned (.plain (OpenSpec.upto fnTopSpec)) fnTopUptoCard

/-- THE SECOND FORM's CARD OF 'laws.FnSecondsSailed'. -/
def fnSecondsSailedUptoCard : Claim7 := { stood := { row := fnSecondsSailedUptoRow, standIns := [], harness := (true, "a319c41cac356734fc2caf88c5c821ff2fdc6b0eedc44b5ac5a546b7eedaf583"), looks := false }, kinds := [], alts := [], laidByText := true, laidKinds := [.data, .data, .data, .data, .pinned], laidTests := true, laidLooks := .later }
def FnSecondsSailedUptoCardSaid : Prop := Claim7.holds Tryz.pinned (.plain (OpenSpec.upto fnSecondsSailedSpec)) fnSecondsSailedUptoCard

/-- THE SECOND FORM's CARD OF 'laws.FnSailSet'. -/
def fnSailSetUptoCard : Claim7 := { stood := { row := fnSailSetUptoRow, standIns := [], harness := (true, "a319c41cac356734fc2caf88c5c821ff2fdc6b0eedc44b5ac5a546b7eedaf583"), looks := false }, kinds := [], alts := [], laidByText := true, laidKinds := [.data, .data, .data, .data, .pinned], laidTests := true, laidLooks := .later }
def FnSailSetUptoCardSaid : Prop := Claim7.holds Tryz.pinned (.plain (OpenSpec.upto fnSailSetSpec)) fnSailSetUptoCard

/-- THE SECOND FORM's CARD OF 'laws.FnReportFields'. -/
def fnReportFieldsUptoCard : Claim7 := { stood := { row := fnReportFieldsUptoRow, standIns := [], harness := (true, "a319c41cac356734fc2caf88c5c821ff2fdc6b0eedc44b5ac5a546b7eedaf583"), looks := false }, kinds := [], alts := [], laidByText := true, laidKinds := [.data, .data, .data, .data, .pinned], laidTests := true, laidLooks := .later }
def FnReportFieldsUptoCardSaid : Prop := Claim7.holds Tryz.pinned (.plain (OpenSpec.upto fnReportFieldsSpec)) fnReportFieldsUptoCard

/-- THE SECOND FORM's CARD OF 'laws.FnRefused'. -/
def fnRefusedUptoCard : Claim7 := { stood := { row := fnRefusedUptoRow, standIns := [], harness := (true, "a319c41cac356734fc2caf88c5c821ff2fdc6b0eedc44b5ac5a546b7eedaf583"), looks := false }, kinds := [], alts := [], laidByText := true, laidKinds := [.data, .data, .data, .data, .pinned], laidTests := true, laidLooks := .later }
def FnRefusedUptoCardSaid : Prop := Claim7.holds Tryz.pinned (.plain (OpenSpec.upto fnRefusedSpec)) fnRefusedUptoCard
end Rows
end Go.Proofs.YtjomnmoekchfeaaGreatDoor
