/-
  DERIVED. GIVEN WITH THE SEED: THE CARDS: each row of YtfljibjjpgdmhaaDoorRows.lean that lists a variable, with what it lists TIED to the program's text (the seventh form; the later family's looks); each row that meets fmt, with fmt's text TOLD by the authors' own Lean function (tested against real Go, not proved from fmt's source: count such statements apart). THE CARD IS WHAT COUNTS. Prove the row's statement (the work); the ties are given (YtfljibjjpgdmhaaDoorTie.lean); close each card by the builder's one call (the guide's Derived/Test/ToyasCard.lean, 'card_holds'). Laid BY PROGRAM, IN A SANDBOX (cutbox-door.mjs). By AI agents, Wed Nov 11 2026. No macro, syntax, notation, axiom, sorry.
-/
import Derived.Test.YtfljibjjpgdmhaaDoorRows
import GoSem.ClaimSeven
namespace Go.Proofs.YtfljibjjpgdmhaaDoor
namespace Rows

/-- THE TIED CARD OF 'aqueductlaw14.RewriteVia'. -/
def rewriteViaCard : Claim7 := { stood := { row := rewriteViaRow, standIns := [], harness := (true, "2c6adcadf182b859725a93fbbb64490e5464cb0959716601ce4a48d6ad2e8a03"), looks := true }, kinds := [], alts := [], laidByText := true, laidKinds := [.data, .data, .data, .data, .sentinel, .sentinel, .pinned], laidTests := true, laidLooks := .later }
def RewriteViaCardSaid : Prop := Claim7.holds Tryd.pinned (.plain (OpenSpec.ofChange rewriteViaSpec)) rewriteViaCard

/-- THE TIED CARD OF 'aqueductlaw14.RewriteSecrets'. -/
def rewriteSecretsCard : Claim7 := { stood := { row := rewriteSecretsRow, standIns := [], harness := (true, "2c6adcadf182b859725a93fbbb64490e5464cb0959716601ce4a48d6ad2e8a03"), looks := true }, kinds := [], alts := [], laidByText := true, laidKinds := [.data, .data, .data, .data, .sentinel, .sentinel, .pinned], laidTests := true, laidLooks := .later }
def RewriteSecretsCardSaid : Prop := Claim7.holds Tryd.pinned (.plain (OpenSpec.ofChange rewriteSecretsSpec)) rewriteSecretsCard

/-- THE SECOND FORM's CARD OF 'aqueductlaw14.RewriteVia'. -/
def rewriteViaUptoCard : Claim7 := { stood := { row := rewriteViaUptoRow, standIns := [], harness := (true, "2c6adcadf182b859725a93fbbb64490e5464cb0959716601ce4a48d6ad2e8a03"), looks := true }, kinds := [], alts := [], laidByText := true, laidKinds := [.data, .data, .data, .data, .sentinel, .sentinel, .pinned], laidTests := true, laidLooks := .later }
def RewriteViaUptoCardSaid : Prop := Claim7.holds Tryd.pinned (.plain (OpenSpec.upto rewriteViaSpec)) rewriteViaUptoCard

/-- THE SECOND FORM's CARD OF 'aqueductlaw14.RewriteSecrets'. -/
def rewriteSecretsUptoCard : Claim7 := { stood := { row := rewriteSecretsUptoRow, standIns := [], harness := (true, "2c6adcadf182b859725a93fbbb64490e5464cb0959716601ce4a48d6ad2e8a03"), looks := true }, kinds := [], alts := [], laidByText := true, laidKinds := [.data, .data, .data, .data, .sentinel, .sentinel, .pinned], laidTests := true, laidLooks := .later }
def RewriteSecretsUptoCardSaid : Prop := Claim7.holds Tryd.pinned (.plain (OpenSpec.upto rewriteSecretsSpec)) rewriteSecretsUptoCard
end Rows
end Go.Proofs.YtfljibjjpgdmhaaDoor
