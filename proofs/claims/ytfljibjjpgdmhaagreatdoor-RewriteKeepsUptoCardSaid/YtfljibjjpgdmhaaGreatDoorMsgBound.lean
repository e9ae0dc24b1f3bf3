/- The walks of bound, the program's and the reference's: whether a header is of one connection alone. -/
import Derived.Test.YtfljibjjpgdmhaaGreatDoorHdr
import Derived.Test.YtfljibjjpgdmhaaGreatDoorObj
set_option linter.unusedVariables false
set_option linter.unusedSimpArgs false
set_option linter.unusedSectionVars false
namespace Go.Proofs.YtfljibjjpgdmhaaGreatDoor
open Go.RowKit
def boundB (n v : ByteArray) : Bool :=
  n.toList == [99, 111, 110, 110, 101, 99, 116, 105, 111, 110] || n.toList == [112, 114, 111, 120, 121, 45, 99, 111, 110, 110, 101, 99, 116, 105, 111, 110] || n.toList == [107, 101, 101, 112, 45, 97, 108, 105, 118, 101] ||
  n.toList == [116, 114, 97, 110, 115, 102, 101, 114, 45, 101, 110, 99, 111, 100, 105, 110, 103] || n.toList == [117, 112, 103, 114, 97, 100, 101] || (n.toList == [116, 101] && !(v.toList == [116, 114, 97, 105, 108, 101, 114, 115]))
set_option maxHeartbeats 2000000 in
set_option maxRecDepth 100000 in
theorem bound_any (n v : ByteArray) (b : Bool) (w : World) :
    Calls Tryz.prog 54 #[.agg #[.string n, .string v, .bool b]] w fun e w' => e = .returned (.bool (boundB n v)) ∧ Below w.heap.size w w' := by
  go_enter Tryz.func54, Tryz.ntmps54
  go_wp2_with fail
  all_goals
    go_ret
    refine ⟨bool_eq ?_, below_al (Below.refl _ _) _⟩
    simp_all [boundB]
set_option maxHeartbeats 2000000 in
set_option maxRecDepth 100000 in
theorem rbound_any (n v : ByteArray) (b : Bool) (w : World) :
    Calls Tryz.prog 47 #[.agg #[.string n, .string v, .bool b]] w fun e w' => e = .returned (.bool (boundB n v)) ∧ Below w.heap.size w w' := by
  go_enter Tryz.func47, Tryz.ntmps47
  go_wp2_with fail
  all_goals
    go_ret
    refine ⟨bool_eq ?_, below_al (Below.refl _ _) _⟩
    simp_all [boundB]
end Go.Proofs.YtfljibjjpgdmhaaGreatDoor
