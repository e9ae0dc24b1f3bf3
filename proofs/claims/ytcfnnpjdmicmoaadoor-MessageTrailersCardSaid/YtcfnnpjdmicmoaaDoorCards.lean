/-
  DERIVED. GIVEN WITH THE SEED: THE CARDS: each row of YtcfnnpjdmicmoaaDoorRows.lean that lists a variable, with what it lists TIED to the program's text (the seventh form; the later family's looks); each row that meets fmt, with fmt's text TOLD by the authors' own Lean function (tested against real Go, not proved from fmt's source: count such statements apart). THE CARD IS WHAT COUNTS. Prove the row's statement (the work); the ties are given (YtcfnnpjdmicmoaaDoorTie.lean); close each card by the builder's one call (the guide's Derived/Test/ToyasCard.lean, 'card_holds'). Laid BY PROGRAM, IN A SANDBOX (cutbox-door.mjs). By AI agents, Wed Nov 11 2026. No macro, syntax, notation, axiom, sorry.
-/
import Derived.Test.YtcfnnpjdmicmoaaDoorRows
import GoSem.ClaimSeven
namespace Go.Proofs.YtcfnnpjdmicmoaaDoor
namespace Rows

/-- THE TIED CARD OF 'aqueductlaw13.MessageValues'. -/
def messageValuesCard : Claim7 := { stood := { row := messageValuesRow, standIns := [], harness := (true, "4a9acc9fbd34c0f99ab2148a7965ba325a99e4d95606aa7cf525cb92e0fe4e0c"), looks := true }, kinds := [], alts := [], laidByText := true, laidKinds := [.data, .pinned], laidTests := true, laidLooks := .later }
def MessageValuesCardSaid : Prop := Claim7.holds Tryd.pinned (.plain (OpenSpec.ofChange messageValuesSpec)) messageValuesCard

/-- THE TIED CARD OF 'aqueductlaw13.MessageTrailers'. -/
def messageTrailersCard : Claim7 := { stood := { row := messageTrailersRow, standIns := [], harness := (true, "4a9acc9fbd34c0f99ab2148a7965ba325a99e4d95606aa7cf525cb92e0fe4e0c"), looks := true }, kinds := [], alts := [], laidByText := true, laidKinds := [.data, .pinned], laidTests := true, laidLooks := .later }
def MessageTrailersCardSaid : Prop := Claim7.holds Tryd.pinned (.plain (OpenSpec.ofChange messageTrailersSpec)) messageTrailersCard

/-- THE TIED CARD OF 'aqueductlaw13.MessageLengths'. -/
def messageLengthsCard : Claim7 := { stood := { row := messageLengthsRow, standIns := [], harness := (true, "4a9acc9fbd34c0f99ab2148a7965ba325a99e4d95606aa7cf525cb92e0fe4e0c"), looks := true }, kinds := [], alts := [], laidByText := true, laidKinds := [.data, .data, .data, .data, .sentinel, .sentinel, .pinned], laidTests := true, laidLooks := .later }
def MessageLengthsCardSaid : Prop := Claim7.holds Tryd.pinned (.plain (OpenSpec.ofChange messageLengthsSpec)) messageLengthsCard

/-- THE TIED CARD OF 'aqueductlaw13.MessageResponses'. -/
def messageResponsesCard : Claim7 := { stood := { row := messageResponsesRow, standIns := [], harness := (true, "4a9acc9fbd34c0f99ab2148a7965ba325a99e4d95606aa7cf525cb92e0fe4e0c"), looks := true }, kinds := [], alts := [], laidByText := true, laidKinds := [.data, .data, .data, .data, .sentinel, .sentinel, .pinned], laidTests := true, laidLooks := .later }
def MessageResponsesCardSaid : Prop := Claim7.holds Tryd.pinned (.plain (OpenSpec.ofChange messageResponsesSpec)) messageResponsesCard

/-- THE TIED CARD OF 'aqueductlaw13.MessageRequests'. -/
def messageRequestsCard : Claim7 := { stood := { row := messageRequestsRow, standIns := [], harness := (true, "4a9acc9fbd34c0f99ab2148a7965ba325a99e4d95606aa7cf525cb92e0fe4e0c"), looks := true }, kinds := [], alts := [], laidByText := true, laidKinds := [.data, .data, .data, .data, .sentinel, .sentinel, .pinned], laidTests := true, laidLooks := .later }
def MessageRequestsCardSaid : Prop := Claim7.holds Tryd.pinned (.plain (OpenSpec.ofChange messageRequestsSpec)) messageRequestsCard

/-- THE TIED CARD OF 'aqueductlaw13.MessageApart'. -/
def messageApartCard : Claim7 := { stood := { row := messageApartRow, standIns := [], harness := (true, "4a9acc9fbd34c0f99ab2148a7965ba325a99e4d95606aa7cf525cb92e0fe4e0c"), looks := true }, kinds := [], alts := [], laidByText := true, laidKinds := [.data, .data, .data, .data, .sentinel, .sentinel, .pinned], laidTests := true, laidLooks := .later }
def MessageApartCardSaid : Prop := Claim7.holds Tryd.pinned (.plain (OpenSpec.ofChange messageApartSpec)) messageApartCard

/-- THE SECOND FORM's CARD OF 'aqueductlaw13.MessageValues'. -/
def messageValuesUptoCard : Claim7 := { stood := { row := messageValuesUptoRow, standIns := [], harness := (true, "4a9acc9fbd34c0f99ab2148a7965ba325a99e4d95606aa7cf525cb92e0fe4e0c"), looks := true }, kinds := [], alts := [], laidByText := true, laidKinds := [.data, .pinned], laidTests := true, laidLooks := .later }
def MessageValuesUptoCardSaid : Prop := Claim7.holds Tryd.pinned (.plain (OpenSpec.upto messageValuesSpec)) messageValuesUptoCard

/-- THE SECOND FORM's CARD OF 'aqueductlaw13.MessageTrailers'. -/
def messageTrailersUptoCard : Claim7 := { stood := { row := messageTrailersUptoRow, standIns := [], harness := (true, "4a9acc9fbd34c0f99ab2148a7965ba325a99e4d95606aa7cf525cb92e0fe4e0c"), looks := true }, kinds := [], alts := [], laidByText := true, laidKinds := [.data, .pinned], laidTests := true, laidLooks := .later }
def MessageTrailersUptoCardSaid : Prop := Claim7.holds Tryd.pinned (.plain (OpenSpec.upto messageTrailersSpec)) messageTrailersUptoCard

/-- THE SECOND FORM's CARD OF 'aqueductlaw13.MessageLengths'. -/
def messageLengthsUptoCard : Claim7 := { stood := { row := messageLengthsUptoRow, standIns := [], harness := (true, "4a9acc9fbd34c0f99ab2148a7965ba325a99e4d95606aa7cf525cb92e0fe4e0c"), looks := true }, kinds := [], alts := [], laidByText := true, laidKinds := [.data, .data, .data, .data, .sentinel, .sentinel, .pinned], laidTests := true, laidLooks := .later }
def MessageLengthsUptoCardSaid : Prop := Claim7.holds Tryd.pinned (.plain (OpenSpec.upto messageLengthsSpec)) messageLengthsUptoCard

/-- THE SECOND FORM's CARD OF 'aqueductlaw13.MessageResponses'. -/
def messageResponsesUptoCard : Claim7 := { stood := { row := messageResponsesUptoRow, standIns := [], harness := (true, "4a9acc9fbd34c0f99ab2148a7965ba325a99e4d95606aa7cf525cb92e0fe4e0c"), looks := true }, kinds := [], alts := [], laidByText := true, laidKinds := [.data, .data, .data, .data, .sentinel, .sentinel, .pinned], laidTests := true, laidLooks := .later }
def MessageResponsesUptoCardSaid : Prop := Claim7.holds Tryd.pinned (.plain (OpenSpec.upto messageResponsesSpec)) messageResponsesUptoCard

/-- THE SECOND FORM's CARD OF 'aqueductlaw13.MessageRequests'. -/
def messageRequestsUptoCard : Claim7 := { stood := { row := messageRequestsUptoRow, standIns := [], harness := (true, "4a9acc9fbd34c0f99ab2148a7965ba325a99e4d95606aa7cf525cb92e0fe4e0c"), looks := true }, kinds := [], alts := [], laidByText := true, laidKinds := [.data, .data, .data, .data, .sentinel, .sentinel, .pinned], laidTests := true, laidLooks := .later }
def MessageRequestsUptoCardSaid : Prop := Claim7.holds Tryd.pinned (.plain (OpenSpec.upto messageRequestsSpec)) messageRequestsUptoCard

/-- THE SECOND FORM's CARD OF 'aqueductlaw13.MessageApart'. -/
def messageApartUptoCard : Claim7 := { stood := { row := messageApartUptoRow, standIns := [], harness := (true, "4a9acc9fbd34c0f99ab2148a7965ba325a99e4d95606aa7cf525cb92e0fe4e0c"), looks := true }, kinds := [], alts := [], laidByText := true, laidKinds := [.data, .data, .data, .data, .sentinel, .sentinel, .pinned], laidTests := true, laidLooks := .later }
def MessageApartUptoCardSaid : Prop := Claim7.holds Tryd.pinned (.plain (OpenSpec.upto messageApartSpec)) messageApartUptoCard
end Rows
end Go.Proofs.YtcfnnpjdmicmoaaDoor
