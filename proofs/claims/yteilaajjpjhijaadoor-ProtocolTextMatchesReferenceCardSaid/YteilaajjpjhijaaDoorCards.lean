/-
  DERIVED. GIVEN WITH THE SEED: THE CARDS: each row of YteilaajjpjhijaaDoorRows.lean that lists a variable, with what it lists TIED to the program's text (the seventh form; the later family's looks); each row that meets fmt, with fmt's text TOLD by the authors' own Lean function (tested against real Go, not proved from fmt's source: count such statements apart). THE CARD IS WHAT COUNTS. Prove the row's statement (the work); the ties are given (YteilaajjpjhijaaDoorTie.lean); close each card by the builder's one call (the guide's Derived/Test/ToyasCard.lean, 'card_holds'). Laid BY PROGRAM, IN A SANDBOX (cutbox-door.mjs). By AI agents, Wed Nov 11 2026. No macro, syntax, notation, axiom, sorry.
-/
import Derived.Test.YteilaajjpjhijaaDoorRows
import GoSem.ClaimSeven
namespace Go.Proofs.YteilaajjpjhijaaDoor
namespace Rows

/-- THE TIED CARD OF 'latecomerlaw13.ProtocolMatchesReference'. -/
def protocolMatchesReferenceCard : Claim7 := { stood := { row := protocolMatchesReferenceRow, standIns := [], harness := (true, "8ae08c8d36f55f05ab247582d284a0a31e39fe2d8b439a83113a66530c4432ae"), looks := true }, kinds := [], alts := [], laidByText := true, laidKinds := [.data, .data, .data, .sentinel, .sentinel], laidTests := true, laidLooks := .later }
def ProtocolMatchesReferenceCardSaid : Prop := Claim7.holds Tryd.pinned (.plain (OpenSpec.ofChange protocolMatchesReferenceSpec)) protocolMatchesReferenceCard

/-- THE TIED CARD OF 'latecomerlaw13.ProtocolTextMatchesReference'. -/
def protocolTextMatchesReferenceCard : Claim7 := { stood := { row := protocolTextMatchesReferenceRow, standIns := [], harness := (true, "8ae08c8d36f55f05ab247582d284a0a31e39fe2d8b439a83113a66530c4432ae"), looks := true }, kinds := [], alts := [], laidByText := true, laidKinds := [.data, .data, .data, .sentinel, .sentinel], laidTests := true, laidLooks := .later }
def ProtocolTextMatchesReferenceCardSaid : Prop := Claim7.holds Tryd.pinned (.plain (OpenSpec.ofChange protocolTextMatchesReferenceSpec)) protocolTextMatchesReferenceCard

/-- THE TIED CARD OF 'latecomerlaw13.ProtocolLeast'. -/
def protocolLeastCard : Claim7 := { stood := { row := protocolLeastRow, standIns := [], harness := (true, "8ae08c8d36f55f05ab247582d284a0a31e39fe2d8b439a83113a66530c4432ae"), looks := true }, kinds := [], alts := [], laidByText := true, laidKinds := [.data, .data, .data, .sentinel, .sentinel], laidTests := true, laidLooks := .later }
def ProtocolLeastCardSaid : Prop := Claim7.holds Tryd.pinned (.plain (OpenSpec.ofChange protocolLeastSpec)) protocolLeastCard

/-- THE TIED CARD OF 'latecomerlaw13.ProtocolFills'. -/
def protocolFillsCard : Claim7 := { stood := { row := protocolFillsRow, standIns := [], harness := (true, "8ae08c8d36f55f05ab247582d284a0a31e39fe2d8b439a83113a66530c4432ae"), looks := true }, kinds := [], alts := [], laidByText := true, laidKinds := [.data, .data, .data, .sentinel, .sentinel], laidTests := true, laidLooks := .later }
def ProtocolFillsCardSaid : Prop := Claim7.holds Tryd.pinned (.plain (OpenSpec.ofChange protocolFillsSpec)) protocolFillsCard

/-- THE TIED CARD OF 'latecomerlaw13.ProtocolSteps'. -/
def protocolStepsCard : Claim7 := { stood := { row := protocolStepsRow, standIns := [], harness := (true, "8ae08c8d36f55f05ab247582d284a0a31e39fe2d8b439a83113a66530c4432ae"), looks := true }, kinds := [], alts := [], laidByText := true, laidKinds := [.data, .data, .data, .sentinel, .sentinel], laidTests := true, laidLooks := .later }
def ProtocolStepsCardSaid : Prop := Claim7.holds Tryd.pinned (.plain (OpenSpec.ofChange protocolStepsSpec)) protocolStepsCard

/-- THE TIED CARD OF 'latecomerlaw13.ProtocolAlternatives'. -/
def protocolAlternativesCard : Claim7 := { stood := { row := protocolAlternativesRow, standIns := [], harness := (true, "8ae08c8d36f55f05ab247582d284a0a31e39fe2d8b439a83113a66530c4432ae"), looks := true }, kinds := [], alts := [], laidByText := true, laidKinds := [.data, .data, .data, .sentinel, .sentinel], laidTests := true, laidLooks := .later }
def ProtocolAlternativesCardSaid : Prop := Claim7.holds Tryd.pinned (.plain (OpenSpec.ofChange protocolAlternativesSpec)) protocolAlternativesCard

/-- THE TIED CARD OF 'latecomerlaw13.ProtocolPrinted'. -/
def protocolPrintedCard : Claim7 := { stood := { row := protocolPrintedRow, standIns := [], harness := (true, "8ae08c8d36f55f05ab247582d284a0a31e39fe2d8b439a83113a66530c4432ae"), looks := true }, kinds := [], alts := [], laidByText := true, laidKinds := [.data, .data, .data, .sentinel, .sentinel], laidTests := true, laidLooks := .later }
def ProtocolPrintedCardSaid : Prop := Claim7.holds Tryd.pinned (.plain (OpenSpec.ofChange protocolPrintedSpec)) protocolPrintedCard

/-- THE SECOND FORM's CARD OF 'latecomerlaw13.ProtocolMatchesReference'. -/
def protocolMatchesReferenceUptoCard : Claim7 := { stood := { row := protocolMatchesReferenceUptoRow, standIns := [], harness := (true, "8ae08c8d36f55f05ab247582d284a0a31e39fe2d8b439a83113a66530c4432ae"), looks := true }, kinds := [], alts := [], laidByText := true, laidKinds := [.data, .data, .data, .sentinel, .sentinel], laidTests := true, laidLooks := .later }
def ProtocolMatchesReferenceUptoCardSaid : Prop := Claim7.holds Tryd.pinned (.plain (OpenSpec.upto protocolMatchesReferenceSpec)) protocolMatchesReferenceUptoCard

/-- THE SECOND FORM's CARD OF 'latecomerlaw13.ProtocolTextMatchesReference'. -/
def protocolTextMatchesReferenceUptoCard : Claim7 := { stood := { row := protocolTextMatchesReferenceUptoRow, standIns := [], harness := (true, "8ae08c8d36f55f05ab247582d284a0a31e39fe2d8b439a83113a66530c4432ae"), looks := true }, kinds := [], alts := [], laidByText := true, laidKinds := [.data, .data, .data, .sentinel, .sentinel], laidTests := true, laidLooks := .later }
def ProtocolTextMatchesReferenceUptoCardSaid : Prop := Claim7.holds Tryd.pinned (.plain (OpenSpec.upto protocolTextMatchesReferenceSpec)) protocolTextMatchesReferenceUptoCard

/-- THE SECOND FORM's CARD OF 'latecomerlaw13.ProtocolLeast'. -/
def protocolLeastUptoCard : Claim7 := { stood := { row := protocolLeastUptoRow, standIns := [], harness := (true, "8ae08c8d36f55f05ab247582d284a0a31e39fe2d8b439a83113a66530c4432ae"), looks := true }, kinds := [], alts := [], laidByText := true, laidKinds := [.data, .data, .data, .sentinel, .sentinel], laidTests := true, laidLooks := .later }
def ProtocolLeastUptoCardSaid : Prop := Claim7.holds Tryd.pinned (.plain (OpenSpec.upto protocolLeastSpec)) protocolLeastUptoCard

/-- THE SECOND FORM's CARD OF 'latecomerlaw13.ProtocolFills'. -/
def protocolFillsUptoCard : Claim7 := { stood := { row := protocolFillsUptoRow, standIns := [], harness := (true, "8ae08c8d36f55f05ab247582d284a0a31e39fe2d8b439a83113a66530c4432ae"), looks := true }, kinds := [], alts := [], laidByText := true, laidKinds := [.data, .data, .data, .sentinel, .sentinel], laidTests := true, laidLooks := .later }
def ProtocolFillsUptoCardSaid : Prop := Claim7.holds Tryd.pinned (.plain (OpenSpec.upto protocolFillsSpec)) protocolFillsUptoCard

/-- THE SECOND FORM's CARD OF 'latecomerlaw13.ProtocolSteps'. -/
def protocolStepsUptoCard : Claim7 := { stood := { row := protocolStepsUptoRow, standIns := [], harness := (true, "8ae08c8d36f55f05ab247582d284a0a31e39fe2d8b439a83113a66530c4432ae"), looks := true }, kinds := [], alts := [], laidByText := true, laidKinds := [.data, .data, .data, .sentinel, .sentinel], laidTests := true, laidLooks := .later }
def ProtocolStepsUptoCardSaid : Prop := Claim7.holds Tryd.pinned (.plain (OpenSpec.upto protocolStepsSpec)) protocolStepsUptoCard

/-- THE SECOND FORM's CARD OF 'latecomerlaw13.ProtocolAlternatives'. -/
def protocolAlternativesUptoCard : Claim7 := { stood := { row := protocolAlternativesUptoRow, standIns := [], harness := (true, "8ae08c8d36f55f05ab247582d284a0a31e39fe2d8b439a83113a66530c4432ae"), looks := true }, kinds := [], alts := [], laidByText := true, laidKinds := [.data, .data, .data, .sentinel, .sentinel], laidTests := true, laidLooks := .later }
def ProtocolAlternativesUptoCardSaid : Prop := Claim7.holds Tryd.pinned (.plain (OpenSpec.upto protocolAlternativesSpec)) protocolAlternativesUptoCard

/-- THE SECOND FORM's CARD OF 'latecomerlaw13.ProtocolPrinted'. -/
def protocolPrintedUptoCard : Claim7 := { stood := { row := protocolPrintedUptoRow, standIns := [], harness := (true, "8ae08c8d36f55f05ab247582d284a0a31e39fe2d8b439a83113a66530c4432ae"), looks := true }, kinds := [], alts := [], laidByText := true, laidKinds := [.data, .data, .data, .sentinel, .sentinel], laidTests := true, laidLooks := .later }
def ProtocolPrintedUptoCardSaid : Prop := Claim7.holds Tryd.pinned (.plain (OpenSpec.upto protocolPrintedSpec)) protocolPrintedUptoCard
end Rows
end Go.Proofs.YteilaajjpjhijaaDoor
