/- The walk of the reference's Value. -/
import Derived.Test.YtfljibjjpgdmhaaDoorMsgLong
import Derived.Test.YtfljibjjpgdmhaaDoorMsgLen
set_option linter.unusedVariables false
set_option linter.unusedSimpArgs false
set_option linter.unusedSectionVars false
namespace Go.Proofs.YtfljibjjpgdmhaaDoor
open Go.RowKit
theorem blank_fin : ∀ n : Nat, n < 256 → (decide (n = 32) || decide (n = 9)) = (blanks.data.toList.map UInt8.toNat).contains n := by decide +kernel
theorem blank_nat (b : UInt8) : blankB b = (decide (b.toNat = 32) || decide (b.toNat = 9)) := by
  rw [blank_fin b.toNat b.toBitVec.isLt, blankB, Bool.eq_iff_iff, List.contains_iff_mem, List.contains_iff_mem, List.mem_map]
  constructor
  · intro h; exact ⟨b, h, rfl⟩
  · rintro ⟨x, hx, e⟩
    have : x = b := UInt8.toNat_inj.1 e
    exact this ▸ hx
theorem bad_fin : ∀ n : Nat, n < 256 → (decide (n = 0) || decide (n = 10) || decide (n = 13)) = (crlf.data.toList.map UInt8.toNat).contains n := by decide +kernel
theorem bad_nat (b : UInt8) : badB b = (decide (b.toNat = 0) || decide (b.toNat = 10) || decide (b.toNat = 13)) := by
  rw [bad_fin b.toNat b.toBitVec.isLt, badB, Bool.eq_iff_iff, List.contains_iff_mem, List.contains_iff_mem, List.mem_map]
  constructor
  · intro h; exact ⟨b, h, rfl⟩
  · rintro ⟨x, hx, e⟩
    have : x = b := UInt8.toNat_inj.1 e
    exact this ▸ hx
end Go.Proofs.YtfljibjjpgdmhaaDoor
