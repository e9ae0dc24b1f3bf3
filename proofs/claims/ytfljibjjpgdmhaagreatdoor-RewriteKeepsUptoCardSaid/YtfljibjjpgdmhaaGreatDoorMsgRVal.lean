/- The walk of the reference's Value. -/
import Derived.Test.YtfljibjjpgdmhaaGreatDoorMsgLong
import Derived.Test.YtfljibjjpgdmhaaGreatDoorMsgLen
set_option linter.unusedVariables false
set_option linter.unusedSimpArgs false
set_option linter.unusedSectionVars false
namespace Go.Proofs.YtfljibjjpgdmhaaGreatDoor
open Go.RowKit
theorem blank_fin : ∀ n : Nat, n < 256 → (decide (n = 32) || decide (n = 9)) = (blanks.data.toList.map UInt8.toNat).contains n := by decide +kernel
theorem blank_nat (b : UInt8) : blankB b = (decide (b.toNat = 32) || decide (b.toNat = 9)) := by
  rw [blank_fin b.toNat b.toBitVec.isLt, blankB, Bool.eq_iff_iff, List.contains_iff_mem, List.contains_iff_mem, List.mem_map]
  constructor
  · intro h; exact ⟨b, h, rfl⟩
  · rintro ⟨x, hx, e⟩
    have : x = b := UInt8.toNat_inj.1 e
    exact this ▸ hx
theorem bad_fin : ∀ n : Nat, n < 256 → (decide (n = 0) || decide (n = 10) || decide (n = 13)) = (crlf.data.toList.map UInt8.toNat).contains n := by decide +kernel
theorem bad_nat (b : UInt8) : badB b = (decide (b.toNat = 0) || decide (b.toNat = 10) || decide (b.toNat = 13)) := by
  rw [bad_fin b.toNat b.toBitVec.isLt, badB, Bool.eq_iff_iff, List.contains_iff_mem, List.contains_iff_mem, List.mem_map]
  constructor
  · intro h; exact ⟨b, h, rfl⟩
  · rintro ⟨x, hx, e⟩
    have : x = b := UInt8.toNat_inj.1 e
    exact this ▸ hx
set_option maxHeartbeats 1000000 in
set_option maxRecDepth 100000 in
theorem rblank_any (b : UInt8) (w : World) : Calls Tryz.prog 64 #[.int .u8 b.toNat] w fun e w' => e = .returned (.bool (blankB b)) ∧ w = w' := by
  have HB := Lib.hid (blank_nat b)
  have hb := byte_lt b
  generalize b.toNat = n at *
  go_enter Tryz.func64, Tryz.ntmps64
  go_wp2_with fail
  all_goals
    go_ret
    refine ⟨bool_eq ?_, rfl⟩
    rw [HB.out]
    clear HB
    by_cases q1 : n = 32 <;> by_cases q2 : n = 9 <;> first | (exfalso; omega) | (simp [q1, q2, beq_num]; done) | (simp_all; done)
set_option maxHeartbeats 1000000 in
set_option maxRecDepth 100000 in
theorem rvalue_any (s : ByteArray) (w : World) (hs : s.size ≤ maxLen) :
    Calls Tryz.prog 45 #[.string s] w fun e w' => e = .returned (.bool (valueB s.data.toList)) ∧ w = w' := by
  unfold maxLen at hs
  generalize hv : valueB s.data.toList = v
  have HV := Lib.hid hv
  clear hv
  go_enter Tryz.func45, Tryz.ntmps45
  go_wp2
  go_loop [3] (fun i => ∃ k : Nat, k ≤ s.size ∧ i = .int .i64 k ∧ Upto (fun j => ∀ h : j < s.size, badB s[j] = false) k) (fun i => s.size - (intOf i).toNat)
  case atStart => exact ⟨0, by omega, rfl, Upto.zero _⟩
  case round =>
    obtain ⟨k, hk, rfl, hm⟩ := hrel
    have HM := Lib.hid hm
    clear hm
    by_cases hlt : k < s.size
    · have hb := byte_lt s[k]
      have hn := bad_nat s[k]
      cases hbad : badB s[k] with
      | true =>
        have HA := Lib.hid (any_badT s k hlt hbad)
        have HR : Hid (v = false) := Lib.hid (by rw [← HV.out, valueB, HA.out]; rfl)
        rw [hbad] at hn
        have h3 : s[k].toNat = 0 ∨ s[k].toNat = 10 ∨ s[k].toNat = 13 := by
          have := hn.symm
          simp only [Bool.or_eq_true, decide_eq_true_eq] at this
          omega
        clear hn hbad HM HA
        rcases h3 with h3 | h3 | h3
        all_goals
          go_wp2_with fail
          all_goals go_ret
          all_goals exact ⟨bool_eq (by rw [HR.out]), rfl⟩
      | false =>
        have HB := Lib.hid hbad
        rw [hbad] at hn
        have h3 : s[k].toNat ≠ 0 ∧ s[k].toNat ≠ 10 ∧ s[k].toNat ≠ 13 := by
          have := hn.symm
          simp only [Bool.or_eq_false_iff, decide_eq_false_iff_not] at this
          omega
        obtain ⟨q1, q2, q3⟩ := h3
        clear hn hbad
        have b1 : ((s[k].toNat : Int) == 0) = false := by simp; omega
        have b2 : ((s[k].toNat : Int) == 10) = false := by simp; omega
        have b3 : ((s[k].toNat : Int) == 13) = false := by simp; omega
        clear q1 q2 q3
        go_wp2_with fail
        go_round
        case rel => exact ⟨k + 1, by omega, by go_num, HM.out.succ (fun _ => HB.out)⟩
        case measure => simp [intOf]; omega
    · obtain rfl : k = s.size := by omega
      have HA := Lib.hid (any_badF s HM.out)
      have HR : Hid (v = endsB s.data.toList) := Lib.hid (by rw [← HV.out, valueB, HA.out]; rfl)
      clear HM HA
      by_cases h0 : s.size = 0
      · have HE := Lib.hid (ends_empty s h0)
        have e0 : (s.toList == []) = true := by rw [toList_nil]; exact decide_eq_true h0
        go_wp2_with fail
        go_ret
        exact ⟨bool_eq (by rw [HR.out, HE.out]), rfl⟩
      · have e0 : (s.toList == []) = false := by rw [toList_nil]; exact decide_eq_false h0
        obtain ⟨q, hq⟩ : ∃ q, s.size = q + 1 := ⟨s.size - 1, by omega⟩
        have hE := ends_get s (by omega)
        have eq1 : s.size - 1 = q := by omega
        simp only [eq1] at hE
        have HE := Lib.hid hE
        clear hE
        generalize hx : s[0]'(by omega) = x at *
        generalize hy : s[q]'(by omega) = y at *
        go_wp2_with fail
        refine (rblank_any x _).mono ?_
        rintro e w1 ⟨rfl, rfl⟩
        cases hbx : blankB x with
        | true =>
          rw [hbx] at HE
          go_wp2_with fail
          go_ret
          exact ⟨bool_eq (by rw [HR.out, HE.out]; rfl), rfl⟩
        | false =>
          rw [hbx] at HE
          go_wp2_with fail
          refine (rblank_any y _).mono ?_
          rintro e w1 ⟨rfl, rfl⟩
          go_wp2_with fail
          all_goals
            go_ret
            exact ⟨bool_eq (by rw [HR.out, HE.out]; simp), rfl⟩
end Go.Proofs.YtfljibjjpgdmhaaGreatDoor
