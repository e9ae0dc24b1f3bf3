/-
  DERIVED. GIVEN WITH THE SEED: THE CARDS: each row of YtjlbngkecpaiaaaDoorRows.lean that lists a variable, with what it lists TIED to the program's text (the seventh form; the later family's looks); each row that meets fmt, with fmt's text TOLD by the authors' own Lean function (tested against real Go, not proved from fmt's source: count such statements apart). THE CARD IS WHAT COUNTS. Prove the row's statement (the work); the ties are given (YtjlbngkecpaiaaaDoorTie.lean); close each card by the builder's one call (the guide's Derived/Test/ToyasCard.lean, 'card_holds'). Laid BY PROGRAM, IN A SANDBOX (cutbox-door.mjs). By AI agents, Wed Nov 11 2026. No macro, syntax, notation, axiom, sorry.
-/
import Derived.Test.YtjlbngkecpaiaaaDoorRows
import GoSem.ClaimSeven
namespace Go.Proofs.YtjlbngkecpaiaaaDoor
namespace Rows

/-- THE TIED CARD OF 'aqueductlaw14.RewriteRetries'. -/
def rewriteRetriesCard : Claim7 := { stood := { row := rewriteRetriesRow, standIns := [], harness := (true, "4c2635abadf3d6ab61030b5fddbeac68e53c434b2d3022f858ae0637b9a060e4"), looks := true }, kinds := [], alts := [], laidByText := true, laidKinds := [.data, .data, .data], laidTests := true, laidLooks := .later }
def RewriteRetriesCardSaid : Prop := Claim7.holds Tryd.pinned (.plain (OpenSpec.ofChange rewriteRetriesSpec)) rewriteRetriesCard

/-- THE TIED CARD OF 'aqueductlaw14.RewriteTrailers'. -/
def rewriteTrailersCard : Claim7 := { stood := { row := rewriteTrailersRow, standIns := [], harness := (true, "4c2635abadf3d6ab61030b5fddbeac68e53c434b2d3022f858ae0637b9a060e4"), looks := true }, kinds := [], alts := [], laidByText := true, laidKinds := [.data, .data, .data, .data, .pinned], laidTests := true, laidLooks := .later }
def RewriteTrailersCardSaid : Prop := Claim7.holds Tryd.pinned (.plain (OpenSpec.ofChange rewriteTrailersSpec)) rewriteTrailersCard

/-- THE TIED CARD OF 'aqueductlaw14.RewriteVia'. -/
def rewriteViaCard : Claim7 := { stood := { row := rewriteViaRow, standIns := [], harness := (true, "4c2635abadf3d6ab61030b5fddbeac68e53c434b2d3022f858ae0637b9a060e4"), looks := true }, kinds := [], alts := [], laidByText := true, laidKinds := [.data, .data, .data, .data, .sentinel, .sentinel, .pinned], laidTests := true, laidLooks := .later }
def RewriteViaCardSaid : Prop := Claim7.holds Tryd.pinned (.plain (OpenSpec.ofChange rewriteViaSpec)) rewriteViaCard

/-- THE TIED CARD OF 'aqueductlaw14.RewriteSecrets'. -/
def rewriteSecretsCard : Claim7 := { stood := { row := rewriteSecretsRow, standIns := [], harness := (true, "4c2635abadf3d6ab61030b5fddbeac68e53c434b2d3022f858ae0637b9a060e4"), looks := true }, kinds := [], alts := [], laidByText := true, laidKinds := [.data, .data, .data, .data, .sentinel, .sentinel, .pinned], laidTests := true, laidLooks := .later }
def RewriteSecretsCardSaid : Prop := Claim7.holds Tryd.pinned (.plain (OpenSpec.ofChange rewriteSecretsSpec)) rewriteSecretsCard

/-- THE SECOND FORM's CARD OF 'aqueductlaw14.RewriteRetries'. -/
def rewriteRetriesUptoCard : Claim7 := { stood := { row := rewriteRetriesUptoRow, standIns := [], harness := (true, "4c2635abadf3d6ab61030b5fddbeac68e53c434b2d3022f858ae0637b9a060e4"), looks := true }, kinds := [], alts := [], laidByText := true, laidKinds := [.data, .data, .data], laidTests := true, laidLooks := .later }
def RewriteRetriesUptoCardSaid : Prop := Claim7.holds Tryd.pinned (.plain (OpenSpec.upto rewriteRetriesSpec)) rewriteRetriesUptoCard

/-- THE SECOND FORM's CARD OF 'aqueductlaw14.RewriteTrailers'. -/
def rewriteTrailersUptoCard : Claim7 := { stood := { row := rewriteTrailersUptoRow, standIns := [], harness := (true, "4c2635abadf3d6ab61030b5fddbeac68e53c434b2d3022f858ae0637b9a060e4"), looks := true }, kinds := [], alts := [], laidByText := true, laidKinds := [.data, .data, .data, .data, .pinned], laidTests := true, laidLooks := .later }
def RewriteTrailersUptoCardSaid : Prop := Claim7.holds Tryd.pinned (.plain (OpenSpec.upto rewriteTrailersSpec)) rewriteTrailersUptoCard

/-- THE SECOND FORM's CARD OF 'aqueductlaw14.RewriteVia'. -/
def rewriteViaUptoCard : Claim7 := { stood := { row := rewriteViaUptoRow, standIns := [], harness := (true, "4c2635abadf3d6ab61030b5fddbeac68e53c434b2d3022f858ae0637b9a060e4"), looks := true }, kinds := [], alts := [], laidByText := true, laidKinds := [.data, .data, .data, .data, .sentinel, .sentinel, .pinned], laidTests := true, laidLooks := .later }
def RewriteViaUptoCardSaid : Prop := Claim7.holds Tryd.pinned (.plain (OpenSpec.upto rewriteViaSpec)) rewriteViaUptoCard

/-- THE SECOND FORM's CARD OF 'aqueductlaw14.RewriteSecrets'. -/
def rewriteSecretsUptoCard : Claim7 := { stood := { row := rewriteSecretsUptoRow, standIns := [], harness := (true, "4c2635abadf3d6ab61030b5fddbeac68e53c434b2d3022f858ae0637b9a060e4"), looks := true }, kinds := [], alts := [], laidByText := true, laidKinds := [.data, .data, .data, .data, .sentinel, .sentinel, .pinned], laidTests := true, laidLooks := .later }
def RewriteSecretsUptoCardSaid : Prop := Claim7.holds Tryd.pinned (.plain (OpenSpec.upto rewriteSecretsSpec)) rewriteSecretsUptoCard
end Rows
end Go.Proofs.YtjlbngkecpaiaaaDoor
