/- The reference's signed. -/
import Derived.Test.YtbjhmgdkjbphkaaDoorScrNames
set_option linter.unusedVariables false
set_option linter.unusedSimpArgs false
set_option linter.unusedSectionVars false
namespace Go.Proofs.YtbjhmgdkjbphkaaDoor
open Go.RowKit
theorem size_mk0 (X : List UInt8) : (⟨X.toArray⟩ : ByteArray).size = X.length := by simp [ByteArray.size]
theorem itoa_neg {n : Int} (h : n < 0) : Lib.itoa n = 45 :: Lib.decDigits n.natAbs := by unfold Lib.itoa; rw [if_pos h]
theorem itoa_min : (⟨#[45, 57, 50, 50, 51, 51, 55, 50, 48, 51, 54, 56, 53, 52, 55, 55, 53, 56, 48, 56]⟩ : ByteArray) = ⟨(Lib.itoa (-9223372036854775808)).toArray⟩ := by decide +kernel
theorem itoa_len_all {n : Int} (h0 : -9223372036854775808 ≤ n) (h1 : n ≤ 9223372036854775807) : (Lib.itoa n).length ≤ 65 := by
  by_cases h : n < 0
  · rw [itoa_neg h]
    have := nD_le (n := n.natAbs) (by omega)
    simp; omega
  · obtain ⟨k, rfl⟩ := Int.eq_ofNat_of_zero_le (show 0 ≤ n by omega)
    rw [itoa_nat]
    have := nD_le (n := k) (by omega)
    omega
set_option maxHeartbeats 1000000 in
set_option maxRecDepth 100000 in
theorem signed_any (n : Int) (w : World) (h0 : -9223372036854775808 ≤ n) (h1 : n ≤ 9223372036854775807) :
    Calls Tryd.prog 23 #[.int .i64 n] w fun e w' => e = .returned (.string ⟨(Lib.itoa n).toArray⟩) ∧ Below w.heap.size w w' := by
  by_cases h : 0 ≤ n
  · obtain ⟨k, rfl⟩ := Int.eq_ofNat_of_zero_le h
    have HT := Lib.hid (told_any k w (by omega))
    rw [itoa_nat]
    generalize Lib.decDigits k = D at *
    go_enter Tryd.func23, Tryd.ntmps23
    go_wp2_with fail
    refine HT.out.mono ?_
    rintro e w1 ⟨rfl, hb⟩
    have HB := Lib.hid hb
    clear hb
    go_wp2_with fail
    go_ret
    exact ⟨rfl, HB.out⟩
  · by_cases hm : n = -9223372036854775808
    · subst hm
      have HM := Lib.hid itoa_min
      rw [← HM.out]
      go_enter Tryd.func23, Tryd.ntmps23
      go_wp2_with fail
      go_ret
      exact ⟨rfl, Below.refl _ _⟩
    · have HN := Lib.hid (itoa_neg (n := n) (by omega))
      have hng : -n = (n.natAbs : Int) := by omega
      have HT := Lib.hid (told_any n.natAbs w (by omega))
      rw [← hng] at HT
      have hL := nD_le (n := n.natAbs) (by omega)
      have hmb : (n == -9223372036854775808) = false := by simpa using hm
      have hge : ¬ 0 ≤ n := h
      have HWR : IntKind.i64.wrap (-n) = -n := by rw [IntKind.wrap_i64]; omega
      clear hng h hm
      rw [HN.out]
      generalize Lib.decDigits n.natAbs = D at *
      have hs := size_mk0 D
      have hs1 : (⟨#[45]⟩ : ByteArray).size = 1 := rfl
      have HAP := Lib.hid (app_mk [45] D)
      go_enter Tryd.func23, Tryd.ntmps23
      go_wp2_with fail
      refine HT.out.mono ?_
      rintro e w1 ⟨rfl, hb⟩
      have HB := Lib.hid hb
      clear hb
      go_wp2_with fail
      go_ret
      exact ⟨by first | (exact congrArg (fun x => Ending.returned (Value.string x)) HAP.out) | (rw [HAP.out]; rfl), HB.out⟩
end Go.Proofs.YtbjhmgdkjbphkaaDoor
