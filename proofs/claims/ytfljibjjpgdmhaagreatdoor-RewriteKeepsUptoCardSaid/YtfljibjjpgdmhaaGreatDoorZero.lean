/- The zero value of a type, from the type's own facts. -/
import Derived.Test.YtfljibjjpgdmhaaGreatDoorKit
set_option linter.unusedVariables false
set_option linter.unusedSimpArgs false
set_option linter.unusedSectionVars false
namespace Go.Proofs.YtfljibjjpgdmhaaGreatDoor
open Go.RowKit
theorem zero_of {P : Program} {t : TypeId} {v : Value} (h : (P.info? t).map (fun i => i.zero) = some (some v)) : ∀ w, Sem.run P (zeroValue t) w = .ok v w := by
  intro w
  cases hi : P.info? t with
  | none => rw [hi] at h; cases h
  | some i =>
    rw [hi] at h
    simp only [Option.map_some, Option.some.injEq] at h
    simp [zeroValue, typeInfo, hi, h, go_sem]
end Go.Proofs.YtfljibjjpgdmhaaGreatDoor
