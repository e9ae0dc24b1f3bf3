/- strings.IndexRune at the three bytes that no value may hold, and the replacement rune: nowhere. -/
import Derived.Test.YtfljibjjpgdmhaaGreatDoorMsgName
import Derived.Test.YtfljibjjpgdmhaaGreatDoorMsgValPure
set_option linter.unusedVariables false
set_option linter.unusedSimpArgs false
set_option linter.unusedSectionVars false
namespace Go.Proofs.YtfljibjjpgdmhaaGreatDoor
open Go.RowKit
set_option maxHeartbeats 2000000 in
set_option maxRecDepth 100000 in
theorem runeErr_any (w : World) :
    Calls Tryz.prog 100 #[.string crlf, .int .i32 65533] w fun e w' => e = .returned (.int .i64 (-1)) ∧ Below w.heap.size w w' := by
  generalize hs : crlf = S
  have HG : Hid (∀ j (h : j < S.size), S[j].toNat < 128) := Lib.hid (by subst hs; exact crlf_get)
  clear hs
  go_enter Tryz.func100, Tryz.ntmps100
  go_wp2_with fail
  go_loopw [4] (fun r w' => ∃ pos : Nat, w' = w.iter S pos ∧ r = .int .i64 0 ∧ pos ≤ S.size) (fun _ w' => S.size - w'.iterPos w.heap.size)
  case atStart => exact ⟨0, rfl, rfl, by omega⟩
  case round =>
    obtain ⟨pos, rfl, rfl, hps⟩ := hrel
    by_cases hp : pos < S.size
    · have ha := HG.out pos hp
      have hnx : ∀ ty, (Instr.next (.pointer (some ⟨w.heap.size, 0, none⟩)) true ty).run Tryz.prog (w.iter S pos) = _ := fun ty => run_next_ascii w S pos ty hp ha
      go_wp2_with fail
      go_roundw
      case rel => exact ⟨pos + 1, rfl, rfl, by omega⟩
      case measure => simp; omega
    · obtain rfl : pos = S.size := by omega
      have hnx : ∀ ty, (Instr.next (.pointer (some ⟨w.heap.size, 0, none⟩)) true ty).run Tryz.prog (w.iter S S.size) = _ := fun ty => run_next_end w S S.size ty hp
      go_wp2_with fail
      go_ret
      exact ⟨rfl, below_al (Below.refl _ _) _⟩

end Go.Proofs.YtfljibjjpgdmhaaGreatDoor
