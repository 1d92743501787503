/-
  DERIVED. GIVEN WITH THE SEED: THE CARDS: each row of YtphmhelkojdlaaaDoorRows.lean that lists a variable, with what it lists TIED to the program's text (the seventh form; the later family's looks); each row that meets fmt, with fmt's text TOLD by the authors' own Lean function (tested against real Go, not proved from fmt's source: count such statements apart). THE CARD IS WHAT COUNTS. Prove the row's statement (the work); the ties are given (YtphmhelkojdlaaaDoorTie.lean); close each card by the builder's one call (the guide's Derived/Test/ToyasCard.lean, 'card_holds'). Laid BY PROGRAM, IN A SANDBOX (cutbox-door.mjs). By AI agents, Wed Nov 11 2026. No macro, syntax, notation, axiom, sorry.
-/
import Derived.Test.YtphmhelkojdlaaaDoorRows
import GoSem.ClaimSeven
namespace Go.Proofs.YtphmhelkojdlaaaDoor
namespace Rows

/-- THE TIED CARD OF 'pandectlaw07.FormulaMatchesReference'. -/
def formulaMatchesReferenceCard : Claim7 := { stood := { row := formulaMatchesReferenceRow, standIns := [], harness := (true, "4a36700912013bb2f555b7a01611f8226529d3d0a19222fa014a5d6bd73064b1"), looks := true }, kinds := [], alts := [], laidByText := true, laidKinds := [.data, .data, .data, .sentinel, .sentinel], laidTests := true, laidLooks := .later }
def FormulaMatchesReferenceCardSaid : Prop := Claim7.holds Tryd.pinned (.plain (OpenSpec.ofChange formulaMatchesReferenceSpec)) formulaMatchesReferenceCard

/-- THE TIED CARD OF 'pandectlaw07.FormulaConnectives'. -/
def formulaConnectivesCard : Claim7 := { stood := { row := formulaConnectivesRow, standIns := [], harness := (true, "4a36700912013bb2f555b7a01611f8226529d3d0a19222fa014a5d6bd73064b1"), looks := true }, kinds := [], alts := [], laidByText := true, laidKinds := [.data, .data, .data, .sentinel, .sentinel], laidTests := true, laidLooks := .later }
def FormulaConnectivesCardSaid : Prop := Claim7.holds Tryd.pinned (.plain (OpenSpec.ofChange formulaConnectivesSpec)) formulaConnectivesCard

/-- THE TIED CARD OF 'pandectlaw07.FormulaTests'. -/
def formulaTestsCard : Claim7 := { stood := { row := formulaTestsRow, standIns := [], harness := (true, "4a36700912013bb2f555b7a01611f8226529d3d0a19222fa014a5d6bd73064b1"), looks := true }, kinds := [], alts := [], laidByText := true, laidKinds := [.data, .data, .data, .sentinel, .sentinel], laidTests := true, laidLooks := .later }
def FormulaTestsCardSaid : Prop := Claim7.holds Tryd.pinned (.plain (OpenSpec.ofChange formulaTestsSpec)) formulaTestsCard

/-- THE TIED CARD OF 'pandectlaw07.FormulaExpands'. -/
def formulaExpandsCard : Claim7 := { stood := { row := formulaExpandsRow, standIns := [], harness := (true, "4a36700912013bb2f555b7a01611f8226529d3d0a19222fa014a5d6bd73064b1"), looks := true }, kinds := [], alts := [], laidByText := true, laidKinds := [.data, .data, .data, .sentinel, .sentinel], laidTests := true, laidLooks := .later }
def FormulaExpandsCardSaid : Prop := Claim7.holds Tryd.pinned (.plain (OpenSpec.ofChange formulaExpandsSpec)) formulaExpandsCard

/-- THE TIED CARD OF 'pandectlaw07.FormulaMatters'. -/
def formulaMattersCard : Claim7 := { stood := { row := formulaMattersRow, standIns := [], harness := (true, "4a36700912013bb2f555b7a01611f8226529d3d0a19222fa014a5d6bd73064b1"), looks := true }, kinds := [], alts := [], laidByText := true, laidKinds := [.data, .data, .data, .sentinel, .sentinel], laidTests := true, laidLooks := .later }
def FormulaMattersCardSaid : Prop := Claim7.holds Tryd.pinned (.plain (OpenSpec.ofChange formulaMattersSpec)) formulaMattersCard

/-- THE TIED CARD OF 'pandectlaw07.FormulaSizes'. -/
def formulaSizesCard : Claim7 := { stood := { row := formulaSizesRow, standIns := [], harness := (true, "4a36700912013bb2f555b7a01611f8226529d3d0a19222fa014a5d6bd73064b1"), looks := true }, kinds := [], alts := [], laidByText := true, laidKinds := [.data, .data, .data, .sentinel, .sentinel], laidTests := true, laidLooks := .later }
def FormulaSizesCardSaid : Prop := Claim7.holds Tryd.pinned (.plain (OpenSpec.ofChange formulaSizesSpec)) formulaSizesCard

/-- THE TIED CARD OF 'pandectlaw07.FormulaParts'. -/
def formulaPartsCard : Claim7 := { stood := { row := formulaPartsRow, standIns := [], harness := (true, "4a36700912013bb2f555b7a01611f8226529d3d0a19222fa014a5d6bd73064b1"), looks := true }, kinds := [], alts := [], laidByText := true, laidKinds := [.data, .data, .data, .sentinel, .sentinel], laidTests := true, laidLooks := .later }
def FormulaPartsCardSaid : Prop := Claim7.holds Tryd.pinned (.plain (OpenSpec.ofChange formulaPartsSpec)) formulaPartsCard

/-- THE TIED CARD OF 'pandectlaw26.RulingReads'. -/
def rulingReadsCard : Claim7 := { stood := { row := rulingReadsRow, standIns := [], harness := (true, "4a36700912013bb2f555b7a01611f8226529d3d0a19222fa014a5d6bd73064b1"), looks := true }, kinds := [], alts := [], laidByText := true, laidKinds := [.data, .data, .data, .sentinel, .sentinel], laidTests := true, laidLooks := .later }
def RulingReadsCardSaid : Prop := Claim7.holds Tryd.pinned (.plain (OpenSpec.ofChange rulingReadsSpec)) rulingReadsCard

/-- THE SECOND FORM's CARD OF 'pandectlaw07.FormulaMatchesReference'. -/
def formulaMatchesReferenceUptoCard : Claim7 := { stood := { row := formulaMatchesReferenceUptoRow, standIns := [], harness := (true, "4a36700912013bb2f555b7a01611f8226529d3d0a19222fa014a5d6bd73064b1"), looks := true }, kinds := [], alts := [], laidByText := true, laidKinds := [.data, .data, .data, .sentinel, .sentinel], laidTests := true, laidLooks := .later }
def FormulaMatchesReferenceUptoCardSaid : Prop := Claim7.holds Tryd.pinned (.plain (OpenSpec.upto formulaMatchesReferenceSpec)) formulaMatchesReferenceUptoCard

/-- THE SECOND FORM's CARD OF 'pandectlaw07.FormulaConnectives'. -/
def formulaConnectivesUptoCard : Claim7 := { stood := { row := formulaConnectivesUptoRow, standIns := [], harness := (true, "4a36700912013bb2f555b7a01611f8226529d3d0a19222fa014a5d6bd73064b1"), looks := true }, kinds := [], alts := [], laidByText := true, laidKinds := [.data, .data, .data, .sentinel, .sentinel], laidTests := true, laidLooks := .later }
def FormulaConnectivesUptoCardSaid : Prop := Claim7.holds Tryd.pinned (.plain (OpenSpec.upto formulaConnectivesSpec)) formulaConnectivesUptoCard

/-- THE SECOND FORM's CARD OF 'pandectlaw07.FormulaTests'. -/
def formulaTestsUptoCard : Claim7 := { stood := { row := formulaTestsUptoRow, standIns := [], harness := (true, "4a36700912013bb2f555b7a01611f8226529d3d0a19222fa014a5d6bd73064b1"), looks := true }, kinds := [], alts := [], laidByText := true, laidKinds := [.data, .data, .data, .sentinel, .sentinel], laidTests := true, laidLooks := .later }
def FormulaTestsUptoCardSaid : Prop := Claim7.holds Tryd.pinned (.plain (OpenSpec.upto formulaTestsSpec)) formulaTestsUptoCard

/-- THE SECOND FORM's CARD OF 'pandectlaw07.FormulaExpands'. -/
def formulaExpandsUptoCard : Claim7 := { stood := { row := formulaExpandsUptoRow, standIns := [], harness := (true, "4a36700912013bb2f555b7a01611f8226529d3d0a19222fa014a5d6bd73064b1"), looks := true }, kinds := [], alts := [], laidByText := true, laidKinds := [.data, .data, .data, .sentinel, .sentinel], laidTests := true, laidLooks := .later }
def FormulaExpandsUptoCardSaid : Prop := Claim7.holds Tryd.pinned (.plain (OpenSpec.upto formulaExpandsSpec)) formulaExpandsUptoCard

/-- THE SECOND FORM's CARD OF 'pandectlaw07.FormulaMatters'. -/
def formulaMattersUptoCard : Claim7 := { stood := { row := formulaMattersUptoRow, standIns := [], harness := (true, "4a36700912013bb2f555b7a01611f8226529d3d0a19222fa014a5d6bd73064b1"), looks := true }, kinds := [], alts := [], laidByText := true, laidKinds := [.data, .data, .data, .sentinel, .sentinel], laidTests := true, laidLooks := .later }
def FormulaMattersUptoCardSaid : Prop := Claim7.holds Tryd.pinned (.plain (OpenSpec.upto formulaMattersSpec)) formulaMattersUptoCard

/-- THE SECOND FORM's CARD OF 'pandectlaw07.FormulaSizes'. -/
def formulaSizesUptoCard : Claim7 := { stood := { row := formulaSizesUptoRow, standIns := [], harness := (true, "4a36700912013bb2f555b7a01611f8226529d3d0a19222fa014a5d6bd73064b1"), looks := true }, kinds := [], alts := [], laidByText := true, laidKinds := [.data, .data, .data, .sentinel, .sentinel], laidTests := true, laidLooks := .later }
def FormulaSizesUptoCardSaid : Prop := Claim7.holds Tryd.pinned (.plain (OpenSpec.upto formulaSizesSpec)) formulaSizesUptoCard

/-- THE SECOND FORM's CARD OF 'pandectlaw07.FormulaParts'. -/
def formulaPartsUptoCard : Claim7 := { stood := { row := formulaPartsUptoRow, standIns := [], harness := (true, "4a36700912013bb2f555b7a01611f8226529d3d0a19222fa014a5d6bd73064b1"), looks := true }, kinds := [], alts := [], laidByText := true, laidKinds := [.data, .data, .data, .sentinel, .sentinel], laidTests := true, laidLooks := .later }
def FormulaPartsUptoCardSaid : Prop := Claim7.holds Tryd.pinned (.plain (OpenSpec.upto formulaPartsSpec)) formulaPartsUptoCard

/-- THE SECOND FORM's CARD OF 'pandectlaw26.RulingReads'. -/
def rulingReadsUptoCard : Claim7 := { stood := { row := rulingReadsUptoRow, standIns := [], harness := (true, "4a36700912013bb2f555b7a01611f8226529d3d0a19222fa014a5d6bd73064b1"), looks := true }, kinds := [], alts := [], laidByText := true, laidKinds := [.data, .data, .data, .sentinel, .sentinel], laidTests := true, laidLooks := .later }
def RulingReadsUptoCardSaid : Prop := Claim7.holds Tryd.pinned (.plain (OpenSpec.upto rulingReadsSpec)) rulingReadsUptoCard
end Rows
end Go.Proofs.YtphmhelkojdlaaaDoor
