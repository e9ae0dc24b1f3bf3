/- The walks of message.Find and aqueductref13.Find: the first value of a name; nothing that was there is written. -/
import Derived.Test.YtfljibjjpgdmhaaGreatDoorHdr
set_option linter.unusedVariables false
set_option linter.unusedSimpArgs false
set_option linter.unusedSectionVars false
namespace Go.Proofs.YtfljibjjpgdmhaaGreatDoor
open Go.RowKit

set_option maxHeartbeats 400000 in
set_option maxRecDepth 100000 in
theorem rfind_any (A : Option Addr) (cap : Nat) (l : List Hdr) (name : ByteArray) (w : World) (hl : HdrsAt w A l) (hm : l.length ≤ maxLen) :
    Calls Tryz.prog 33 #[.slice A l.length cap, .string name] w fun e w' => e = .returned (.tuple #[.string ((findH name l).getD emptyB), .bool (findH name l).isSome]) ∧ w = w' := by
  unfold maxLen at hm
  have HL := Lib.hid hl
  clear hl
  go_enter Tryz.func33, Tryz.ntmps33
  go_wp2
  go_loop [6] (fun i => ∃ k : Nat, k ≤ l.length ∧ i = .int .i64 k ∧ Hid (findH name l = findH name (l.drop k))) (fun i => l.length - (intOf i).toNat)
  case atStart => exact ⟨0, by omega, rfl, Lib.hid (by simp)⟩
  case round =>
    obtain ⟨k, hk, rfl, hf⟩ := hrel
    by_cases hlt : k < l.length
    · obtain ⟨ad, rfl, c0, c1, _, _⟩ := HL.out.get k hlt
      cases he : (l[k].name.toList == name.toList) with
      | true =>
        have HF := Lib.hid (find_hit hf.out hlt he)
        go_wp2
        go_ret2
        exact ⟨by rw [HF.out]; rfl, rfl⟩
      | false =>
        have HF := Lib.hid (find_next hf.out hlt he)
        go_wp2
        go_round
        case rel => exact ⟨k + 1, by omega, by go_num, HF⟩
        case measure => simp [intOf]; omega
    · have HF := Lib.hid (find_end hf.out hlt)
      go_wp2
      go_ret2
      exact ⟨by rw [HF.out]; rfl, rfl⟩

set_option maxHeartbeats 400000 in
set_option maxRecDepth 100000 in
theorem find_any (A : Option Addr) (cap : Nat) (l : List Hdr) (name : ByteArray) (w : World) (hl : HdrsAt w A l) (hm : l.length ≤ maxLen) :
    Calls Tryz.prog 26 #[.slice A l.length cap, .string name] w fun e w' => e = .returned (.tuple #[.string ((findH name l).getD emptyB), .bool (findH name l).isSome]) ∧ Below w.heap.size w w' := by
  unfold maxLen at hm
  have HL := Lib.hid hl
  clear hl
  go_enter Tryz.func26, Tryz.ntmps26
  go_wp2
  go_loopw [10] (fun i wr => ∃ k : Nat, k ≤ l.length ∧ i = .int .i64 k ∧ Hid (findH name l = findH name (l.drop k)) ∧ Below w.heap.size w wr) (fun i _ => l.length - (intOf i).toNat)
  case atStart => exact ⟨0, by omega, rfl, Lib.hid (by simp), Below.refl _ _⟩
  case round =>
    obtain ⟨k, hk, rfl, hf, hb⟩ := hrel
    have HB := Lib.hid hb
    clear hb
    by_cases hlt : k < l.length
    · obtain ⟨ad, rfl, c0, c1, c2, hblk⟩ := (HL.out.below HB.out).get k hlt
      cases he : (l[k].name.toList == name.toList) with
      | true =>
        have HF := Lib.hid (find_hit hf.out hlt he)
        go_wp2
        go_ret2
        exact ⟨by rw [HF.out]; rfl, by repeat (first | exact HB.out | apply below_al)⟩
      | false =>
        have HF := Lib.hid (find_next hf.out hlt he)
        go_wp2
        go_roundw
        case rel => exact ⟨k + 1, by omega, by go_num, HF, by repeat (first | exact HB.out | apply below_al)⟩
        case measure => simp [intOf]; omega
    · have HF := Lib.hid (find_end hf.out hlt)
      go_wp2
      go_ret2
      exact ⟨by rw [HF.out]; rfl, HB.out⟩
end Go.Proofs.YtfljibjjpgdmhaaGreatDoor
