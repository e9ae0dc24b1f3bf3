/-
  DERIVED. GIVEN WITH THE SEED: THE CARDS: each row of YtkgomkjaljpjaaaDoorRows.lean that lists a variable, with what it lists TIED to the program's text (the seventh form; the later family's looks); each row that meets fmt, with fmt's text TOLD by the authors' own Lean function (tested against real Go, not proved from fmt's source: count such statements apart). THE CARD IS WHAT COUNTS. Prove the row's statement (the work); the ties are given (YtkgomkjaljpjaaaDoorTie.lean); close each card by the builder's one call (the guide's Derived/Test/ToyasCard.lean, 'card_holds'). Laid BY PROGRAM, IN A SANDBOX (cutbox-door.mjs). By AI agents, Wed Nov 11 2026. No macro, syntax, notation, axiom, sorry.
-/
import Derived.Test.YtkgomkjaljpjaaaDoorRows
import GoSem.ClaimSeven
namespace Go.Proofs.YtkgomkjaljpjaaaDoor
namespace Rows

/-- THE TIED CARD OF 'aqueductlaw14.RewriteTrailers'. -/
def rewriteTrailersCard : Claim7 := { stood := { row := rewriteTrailersRow, standIns := [], harness := (true, "7ac36288df08bee151a5b125572239b7b6d1459d6099002c9452fe235d4ca2e1"), looks := true }, kinds := [], alts := [], laidByText := true, laidKinds := [.data, .data, .data, .data, .pinned], laidTests := true, laidLooks := .later }
def RewriteTrailersCardSaid : Prop := Claim7.holds Tryd.pinned (.plain (OpenSpec.ofChange rewriteTrailersSpec)) rewriteTrailersCard

/-- THE TIED CARD OF 'aqueductlaw13.MessageResponses'. -/
def messageResponsesCard : Claim7 := { stood := { row := messageResponsesRow, standIns := [], harness := (true, "7ac36288df08bee151a5b125572239b7b6d1459d6099002c9452fe235d4ca2e1"), looks := true }, kinds := [], alts := [], laidByText := true, laidKinds := [.data, .data, .data, .data, .sentinel, .sentinel, .pinned], laidTests := true, laidLooks := .later }
def MessageResponsesCardSaid : Prop := Claim7.holds Tryd.pinned (.plain (OpenSpec.ofChange messageResponsesSpec)) messageResponsesCard

/-- THE TIED CARD OF 'aqueductlaw13.MessageRequests'. -/
def messageRequestsCard : Claim7 := { stood := { row := messageRequestsRow, standIns := [], harness := (true, "7ac36288df08bee151a5b125572239b7b6d1459d6099002c9452fe235d4ca2e1"), looks := true }, kinds := [], alts := [], laidByText := true, laidKinds := [.data, .data, .data, .data, .sentinel, .sentinel, .pinned], laidTests := true, laidLooks := .later }
def MessageRequestsCardSaid : Prop := Claim7.holds Tryd.pinned (.plain (OpenSpec.ofChange messageRequestsSpec)) messageRequestsCard

/-- THE TIED CARD OF 'aqueductlaw13.MessageApart'. -/
def messageApartCard : Claim7 := { stood := { row := messageApartRow, standIns := [], harness := (true, "7ac36288df08bee151a5b125572239b7b6d1459d6099002c9452fe235d4ca2e1"), looks := true }, kinds := [], alts := [], laidByText := true, laidKinds := [.data, .data, .data, .data, .sentinel, .sentinel, .pinned], laidTests := true, laidLooks := .later }
def MessageApartCardSaid : Prop := Claim7.holds Tryd.pinned (.plain (OpenSpec.ofChange messageApartSpec)) messageApartCard

/-- THE TIED CARD OF 'aqueductlaw14.RewriteVia'. -/
def rewriteViaCard : Claim7 := { stood := { row := rewriteViaRow, standIns := [], harness := (true, "7ac36288df08bee151a5b125572239b7b6d1459d6099002c9452fe235d4ca2e1"), looks := true }, kinds := [], alts := [], laidByText := true, laidKinds := [.data, .data, .data, .data, .sentinel, .sentinel, .pinned], laidTests := true, laidLooks := .later }
def RewriteViaCardSaid : Prop := Claim7.holds Tryd.pinned (.plain (OpenSpec.ofChange rewriteViaSpec)) rewriteViaCard

/-- THE TIED CARD OF 'aqueductlaw14.RewriteSecrets'. -/
def rewriteSecretsCard : Claim7 := { stood := { row := rewriteSecretsRow, standIns := [], harness := (true, "7ac36288df08bee151a5b125572239b7b6d1459d6099002c9452fe235d4ca2e1"), looks := true }, kinds := [], alts := [], laidByText := true, laidKinds := [.data, .data, .data, .data, .sentinel, .sentinel, .pinned], laidTests := true, laidLooks := .later }
def RewriteSecretsCardSaid : Prop := Claim7.holds Tryd.pinned (.plain (OpenSpec.ofChange rewriteSecretsSpec)) rewriteSecretsCard

/-- THE SECOND FORM's CARD OF 'aqueductlaw14.RewriteTrailers'. -/
def rewriteTrailersUptoCard : Claim7 := { stood := { row := rewriteTrailersUptoRow, standIns := [], harness := (true, "7ac36288df08bee151a5b125572239b7b6d1459d6099002c9452fe235d4ca2e1"), looks := true }, kinds := [], alts := [], laidByText := true, laidKinds := [.data, .data, .data, .data, .pinned], laidTests := true, laidLooks := .later }
def RewriteTrailersUptoCardSaid : Prop := Claim7.holds Tryd.pinned (.plain (OpenSpec.upto rewriteTrailersSpec)) rewriteTrailersUptoCard

/-- THE SECOND FORM's CARD OF 'aqueductlaw13.MessageResponses'. -/
def messageResponsesUptoCard : Claim7 := { stood := { row := messageResponsesUptoRow, standIns := [], harness := (true, "7ac36288df08bee151a5b125572239b7b6d1459d6099002c9452fe235d4ca2e1"), looks := true }, kinds := [], alts := [], laidByText := true, laidKinds := [.data, .data, .data, .data, .sentinel, .sentinel, .pinned], laidTests := true, laidLooks := .later }
def MessageResponsesUptoCardSaid : Prop := Claim7.holds Tryd.pinned (.plain (OpenSpec.upto messageResponsesSpec)) messageResponsesUptoCard

/-- THE SECOND FORM's CARD OF 'aqueductlaw13.MessageRequests'. -/
def messageRequestsUptoCard : Claim7 := { stood := { row := messageRequestsUptoRow, standIns := [], harness := (true, "7ac36288df08bee151a5b125572239b7b6d1459d6099002c9452fe235d4ca2e1"), looks := true }, kinds := [], alts := [], laidByText := true, laidKinds := [.data, .data, .data, .data, .sentinel, .sentinel, .pinned], laidTests := true, laidLooks := .later }
def MessageRequestsUptoCardSaid : Prop := Claim7.holds Tryd.pinned (.plain (OpenSpec.upto messageRequestsSpec)) messageRequestsUptoCard

/-- THE SECOND FORM's CARD OF 'aqueductlaw13.MessageApart'. -/
def messageApartUptoCard : Claim7 := { stood := { row := messageApartUptoRow, standIns := [], harness := (true, "7ac36288df08bee151a5b125572239b7b6d1459d6099002c9452fe235d4ca2e1"), looks := true }, kinds := [], alts := [], laidByText := true, laidKinds := [.data, .data, .data, .data, .sentinel, .sentinel, .pinned], laidTests := true, laidLooks := .later }
def MessageApartUptoCardSaid : Prop := Claim7.holds Tryd.pinned (.plain (OpenSpec.upto messageApartSpec)) messageApartUptoCard

/-- THE SECOND FORM's CARD OF 'aqueductlaw14.RewriteVia'. -/
def rewriteViaUptoCard : Claim7 := { stood := { row := rewriteViaUptoRow, standIns := [], harness := (true, "7ac36288df08bee151a5b125572239b7b6d1459d6099002c9452fe235d4ca2e1"), looks := true }, kinds := [], alts := [], laidByText := true, laidKinds := [.data, .data, .data, .data, .sentinel, .sentinel, .pinned], laidTests := true, laidLooks := .later }
def RewriteViaUptoCardSaid : Prop := Claim7.holds Tryd.pinned (.plain (OpenSpec.upto rewriteViaSpec)) rewriteViaUptoCard

/-- THE SECOND FORM's CARD OF 'aqueductlaw14.RewriteSecrets'. -/
def rewriteSecretsUptoCard : Claim7 := { stood := { row := rewriteSecretsUptoRow, standIns := [], harness := (true, "7ac36288df08bee151a5b125572239b7b6d1459d6099002c9452fe235d4ca2e1"), looks := true }, kinds := [], alts := [], laidByText := true, laidKinds := [.data, .data, .data, .data, .sentinel, .sentinel, .pinned], laidTests := true, laidLooks := .later }
def RewriteSecretsUptoCardSaid : Prop := Claim7.holds Tryd.pinned (.plain (OpenSpec.upto rewriteSecretsSpec)) rewriteSecretsUptoCard
end Rows
end Go.Proofs.YtkgomkjaljpjaaaDoor
