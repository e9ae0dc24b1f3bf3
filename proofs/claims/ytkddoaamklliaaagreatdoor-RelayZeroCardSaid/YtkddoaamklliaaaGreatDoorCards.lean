/-
  DERIVED. GIVEN WITH THE SEED: THE CARDS: each row of YtkddoaamklliaaaGreatDoorRows.lean that lists a variable, with what it lists TIED to the program's text (the seventh form; the later family's looks); each row that meets fmt, with fmt's text TOLD by the authors' own Lean function (tested against real Go, not proved from fmt's source: count such statements apart). THE CARD IS WHAT COUNTS. Prove the row's statement (the work); the ties are given (YtkddoaamklliaaaGreatDoorTie.lean); close each card by the builder's one call (the guide's Derived/Test/ToyasCard.lean, 'card_holds'). Laid BY PROGRAM, IN A SANDBOX (cutbox-door.mjs). By AI agents, Wed Nov 11 2026. No macro, syntax, notation, axiom, sorry.
-/
import Derived.Test.YtkddoaamklliaaaGreatDoorRows
import GoSem.ClaimSeven
namespace Go.Proofs.YtkddoaamklliaaaGreatDoor
namespace Rows

/-- THE TIED CARD OF 'aqueductlaw21.RelayZero'. -/
def relayZeroCard : Claim7 := { stood := { row := relayZeroRow, standIns := [], harness := (true, "24ef101ea9c2cc7172f5ed2c93cc90dcb7aa12511c1bfa1764ac8143ab42ea99"), looks := true }, kinds := [], alts := [], laidByText := true, laidKinds := [.data, .data, .data, .data, .sentinel, .sentinel, .pinned], laidTests := true, laidLooks := .later }
def RelayZeroCardSaid : Prop := Claim7.holds Tryz.pinned (.plain (OpenSpec.ofChange relayZeroSpec)) relayZeroCard

/-- THE SECOND FORM's CARD OF 'aqueductlaw21.RelayZero'. -/
def relayZeroUptoCard : Claim7 := { stood := { row := relayZeroUptoRow, standIns := [], harness := (true, "24ef101ea9c2cc7172f5ed2c93cc90dcb7aa12511c1bfa1764ac8143ab42ea99"), looks := true }, kinds := [], alts := [], laidByText := true, laidKinds := [.data, .data, .data, .data, .sentinel, .sentinel, .pinned], laidTests := true, laidLooks := .later }
def RelayZeroUptoCardSaid : Prop := Claim7.holds Tryz.pinned (.plain (OpenSpec.upto relayZeroSpec)) relayZeroUptoCard
end Rows
end Go.Proofs.YtkddoaamklliaaaGreatDoor
