/-
  DERIVED. GIVEN WITH THE SEED: THE CARDS: each row of YtbjhmgdkjbphkaaDoorRows.lean that lists a variable, with what it lists TIED to the program's text (the seventh form; the later family's looks); each row that meets fmt, with fmt's text TOLD by the authors' own Lean function (tested against real Go, not proved from fmt's source: count such statements apart). THE CARD IS WHAT COUNTS. Prove the row's statement (the work); the ties are given (YtbjhmgdkjbphkaaDoorTie.lean); close each card by the builder's one call (the guide's Derived/Test/ToyasCard.lean, 'card_holds'). Laid BY PROGRAM, IN A SANDBOX (cutbox-door.mjs). By AI agents, Wed Nov 11 2026. No macro, syntax, notation, axiom, sorry.
-/
import Derived.Test.YtbjhmgdkjbphkaaDoorRows
import GoSem.ClaimSeven
namespace Go.Proofs.YtbjhmgdkjbphkaaDoor
namespace Rows

/-- THE TIED CARD OF 'aqueductlaw23.ScriptPrints'. -/
def scriptPrintsCard : Claim7 := { stood := { row := scriptPrintsRow, standIns := [], harness := (true, "22fb398709d797870a8dbb1b6fd6730a5c4b75bdd3f13633c157135370593bcf"), looks := true }, kinds := [], alts := [], laidByText := true, laidKinds := [.data, .data, .data, .listed, .data], laidTests := true, laidLooks := .later }
def ScriptPrintsCardSaid : Prop := Claim7.holds Tryd.pinned (.plain (OpenSpec.ofChange scriptPrintsSpec)) scriptPrintsCard

/-- THE TIED CARD OF 'aqueductlaw23.ScriptTolds'. -/
def scriptToldsCard : Claim7 := { stood := { row := scriptToldsRow, standIns := [], harness := (true, "22fb398709d797870a8dbb1b6fd6730a5c4b75bdd3f13633c157135370593bcf"), looks := true }, kinds := [], alts := [], laidByText := true, laidKinds := [.data, .data, .data, .listed, .data], laidTests := true, laidLooks := .later }
def ScriptToldsCardSaid : Prop := Claim7.holds Tryd.pinned (.plain (OpenSpec.ofChange scriptToldsSpec)) scriptToldsCard

/-- THE TIED CARD OF 'aqueductlaw23.ScriptBack'. -/
def scriptBackCard : Claim7 := { stood := { row := scriptBackRow, standIns := [], harness := (true, "22fb398709d797870a8dbb1b6fd6730a5c4b75bdd3f13633c157135370593bcf"), looks := true }, kinds := [], alts := [], laidByText := true, laidKinds := [.data, .data, .data, .handle, .sentinel, .sentinel, .listed, .data], laidTests := true, laidLooks := .later }
def ScriptBackCardSaid : Prop := Claim7.holds Tryd.pinned (.plain (OpenSpec.ofChange scriptBackSpec)) scriptBackCard

/-- THE SECOND FORM's CARD OF 'aqueductlaw23.ScriptPrints'. -/
def scriptPrintsUptoCard : Claim7 := { stood := { row := scriptPrintsUptoRow, standIns := [], harness := (true, "22fb398709d797870a8dbb1b6fd6730a5c4b75bdd3f13633c157135370593bcf"), looks := true }, kinds := [], alts := [], laidByText := true, laidKinds := [.data, .data, .data, .listed, .data], laidTests := true, laidLooks := .later }
def ScriptPrintsUptoCardSaid : Prop := Claim7.holds Tryd.pinned (.plain (OpenSpec.upto scriptPrintsSpec)) scriptPrintsUptoCard

/-- THE SECOND FORM's CARD OF 'aqueductlaw23.ScriptTolds'. -/
def scriptToldsUptoCard : Claim7 := { stood := { row := scriptToldsUptoRow, standIns := [], harness := (true, "22fb398709d797870a8dbb1b6fd6730a5c4b75bdd3f13633c157135370593bcf"), looks := true }, kinds := [], alts := [], laidByText := true, laidKinds := [.data, .data, .data, .listed, .data], laidTests := true, laidLooks := .later }
def ScriptToldsUptoCardSaid : Prop := Claim7.holds Tryd.pinned (.plain (OpenSpec.upto scriptToldsSpec)) scriptToldsUptoCard

/-- THE SECOND FORM's CARD OF 'aqueductlaw23.ScriptBack'. -/
def scriptBackUptoCard : Claim7 := { stood := { row := scriptBackUptoRow, standIns := [], harness := (true, "22fb398709d797870a8dbb1b6fd6730a5c4b75bdd3f13633c157135370593bcf"), looks := true }, kinds := [], alts := [], laidByText := true, laidKinds := [.data, .data, .data, .handle, .sentinel, .sentinel, .listed, .data], laidTests := true, laidLooks := .later }
def ScriptBackUptoCardSaid : Prop := Claim7.holds Tryd.pinned (.plain (OpenSpec.upto scriptBackSpec)) scriptBackUptoCard
end Rows
end Go.Proofs.YtbjhmgdkjbphkaaDoor
