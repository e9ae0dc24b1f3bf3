/-
  DERIVED. GIVEN WITH THE SEED: THE CARDS: each row of YtfljibjjpgdmhaaGreatDoorRows.lean that lists a variable, with what it lists TIED to the program's text (the seventh form; the later family's looks); each row that meets fmt, with fmt's text TOLD by the authors' own Lean function (tested against real Go, not proved from fmt's source: count such statements apart). THE CARD IS WHAT COUNTS. Prove the row's statement (the work); the ties are given (YtfljibjjpgdmhaaGreatDoorTie.lean); close each card by the builder's one call (the guide's Derived/Test/ToyasCard.lean, 'card_holds'). Laid BY PROGRAM, IN A SANDBOX (cutbox-door.mjs). By AI agents, Wed Nov 11 2026. No macro, syntax, notation, axiom, sorry.
-/
import Derived.Test.YtfljibjjpgdmhaaGreatDoorRows
import GoSem.ClaimSeven
namespace Go.Proofs.YtfljibjjpgdmhaaGreatDoor
namespace Rows

/-- THE TIED CARD OF 'aqueductlaw14.RewriteResponses'. -/
def rewriteResponsesCard : Claim7 := { stood := { row := rewriteResponsesRow, standIns := [], harness := (true, "ca8f3f581eedfb0c4a7352881793052ab4ed2201b3625c931874ee1af7488f62"), looks := true }, kinds := [], alts := [], laidByText := true, laidKinds := [.data, .data, .data, .data, .sentinel, .sentinel, .pinned], laidTests := true, laidLooks := .later }
def RewriteResponsesCardSaid : Prop := Claim7.holds Tryz.pinned (.plain (OpenSpec.ofChange rewriteResponsesSpec)) rewriteResponsesCard

/-- THE TIED CARD OF 'aqueductlaw14.RewriteRequests'. -/
def rewriteRequestsCard : Claim7 := { stood := { row := rewriteRequestsRow, standIns := [], harness := (true, "ca8f3f581eedfb0c4a7352881793052ab4ed2201b3625c931874ee1af7488f62"), looks := true }, kinds := [], alts := [], laidByText := true, laidKinds := [.data, .data, .data, .data, .sentinel, .sentinel, .pinned], laidTests := true, laidLooks := .later }
def RewriteRequestsCardSaid : Prop := Claim7.holds Tryz.pinned (.plain (OpenSpec.ofChange rewriteRequestsSpec)) rewriteRequestsCard

/-- THE TIED CARD OF 'aqueductlaw14.RewriteKeeps'. -/
def rewriteKeepsCard : Claim7 := { stood := { row := rewriteKeepsRow, standIns := [], harness := (true, "ca8f3f581eedfb0c4a7352881793052ab4ed2201b3625c931874ee1af7488f62"), looks := true }, kinds := [], alts := [], laidByText := true, laidKinds := [.data, .data, .data, .data, .sentinel, .sentinel, .pinned], laidTests := true, laidLooks := .later }
def RewriteKeepsCardSaid : Prop := Claim7.holds Tryz.pinned (.plain (OpenSpec.ofChange rewriteKeepsSpec)) rewriteKeepsCard

/-- THE SECOND FORM's CARD OF 'aqueductlaw14.RewriteResponses'. -/
def rewriteResponsesUptoCard : Claim7 := { stood := { row := rewriteResponsesUptoRow, standIns := [], harness := (true, "ca8f3f581eedfb0c4a7352881793052ab4ed2201b3625c931874ee1af7488f62"), looks := true }, kinds := [], alts := [], laidByText := true, laidKinds := [.data, .data, .data, .data, .sentinel, .sentinel, .pinned], laidTests := true, laidLooks := .later }
def RewriteResponsesUptoCardSaid : Prop := Claim7.holds Tryz.pinned (.plain (OpenSpec.upto rewriteResponsesSpec)) rewriteResponsesUptoCard

/-- THE SECOND FORM's CARD OF 'aqueductlaw14.RewriteRequests'. -/
def rewriteRequestsUptoCard : Claim7 := { stood := { row := rewriteRequestsUptoRow, standIns := [], harness := (true, "ca8f3f581eedfb0c4a7352881793052ab4ed2201b3625c931874ee1af7488f62"), looks := true }, kinds := [], alts := [], laidByText := true, laidKinds := [.data, .data, .data, .data, .sentinel, .sentinel, .pinned], laidTests := true, laidLooks := .later }
def RewriteRequestsUptoCardSaid : Prop := Claim7.holds Tryz.pinned (.plain (OpenSpec.upto rewriteRequestsSpec)) rewriteRequestsUptoCard

/-- THE SECOND FORM's CARD OF 'aqueductlaw14.RewriteKeeps'. -/
def rewriteKeepsUptoCard : Claim7 := { stood := { row := rewriteKeepsUptoRow, standIns := [], harness := (true, "ca8f3f581eedfb0c4a7352881793052ab4ed2201b3625c931874ee1af7488f62"), looks := true }, kinds := [], alts := [], laidByText := true, laidKinds := [.data, .data, .data, .data, .sentinel, .sentinel, .pinned], laidTests := true, laidLooks := .later }
def RewriteKeepsUptoCardSaid : Prop := Claim7.holds Tryz.pinned (.plain (OpenSpec.upto rewriteKeepsSpec)) rewriteKeepsUptoCard
end Rows
end Go.Proofs.YtfljibjjpgdmhaaGreatDoor
