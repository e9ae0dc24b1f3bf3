/- The walk of the reference's Request. -/
import Derived.Test.YtfljibjjpgdmhaaDoorMsgReq
set_option linter.unusedVariables false
set_option linter.unusedSimpArgs false
set_option linter.unusedSectionVars false
namespace Go.Proofs.YtfljibjjpgdmhaaDoor
open Go.RowKit
theorem emp_empty : emp emptyB = true := by rw [emp, toList_nil]; rfl
end Go.Proofs.YtfljibjjpgdmhaaDoor
