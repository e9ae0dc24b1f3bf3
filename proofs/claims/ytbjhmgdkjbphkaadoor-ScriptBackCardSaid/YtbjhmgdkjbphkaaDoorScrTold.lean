/- The reference's told (a number's digits), small, names. -/
import Derived.Test.YtbjhmgdkjbphkaaDoorObj
import Derived.Test.YtbjhmgdkjbphkaaDoorBytes
import Derived.Lib.ItoaNum
set_option linter.unusedVariables false
set_option linter.unusedSimpArgs false
set_option linter.unusedSectionVars false
namespace Go.Proofs.YtbjhmgdkjbphkaaDoor
open Go.RowKit
theorem conv1 (w : World) (x0 : Int) (b0 : UInt8) (h0 : (b0.toNat : Int) = x0) (T : TypeId) :
    (convert 22 9 (.slice (some ⟨w.heap.size, 0, none⟩) 1 1)).run Tryd.prog (w.alloc (.cells #[.int .u8 x0] T)) = .ok (.string ⟨#[b0]⟩) (w.alloc (.cells #[.int .u8 x0] T)) := by
  subst h0
  have hb := BlockIs.new w [.int .u8 b0.toNat] T
  refine run_convert_bytes_back _ 22 9 5 ⟨w.heap.size, 0, none⟩ 1 [b0] Tryd.underlying22 Tryd.underlying5 Tryd.underlying9 ?_
  intro j hj
  match j, hj with
  | 0, _ => exact hb.cell 0
theorem digC (k : Nat) (h : k < 10) : ((UInt8.ofNat (48 + k)).toNat : Int) = 48 + (k : Int) := by
  rw [UInt8.toNat_ofNat']; omega
theorem app_mk (a b : List UInt8) : (⟨a.toArray⟩ : ByteArray) ++ ⟨b.toArray⟩ = ⟨(a ++ b).toArray⟩ := by
  apply ByteArray.ext
  rw [ByteArray.data_append]
  simp
theorem nD_le {n : Nat} (h : n < 10000000000000000000) : (Lib.decDigits n).length ≤ 64 := by
  have key : ∀ (k n : Nat), n < 10 ^ k → 1 ≤ k → (Lib.decDigits n).length ≤ k := by
    intro k
    induction k with
    | zero => intro n h h1; omega
    | succ k ih =>
      intro n h h1
      rw [Lib.decDigits]
      split
      · simp
      · rename_i h2
        have hk : 1 ≤ k := by
          rcases Nat.eq_zero_or_pos k with rfl | h3
          · simp at h; omega
          · exact h3
        have := ih (n / 10) (by rw [Nat.pow_succ] at h; omega) hk
        simp; omega
  have := key 19 n h (by decide)
  omega
set_option maxHeartbeats 1000000 in
set_option maxRecDepth 100000 in
theorem told_any : ∀ (n : Nat) (w : World), n < 9223372036854775808 → Calls Tryd.prog 19 #[.int .i64 n] w fun e w' => e = .returned (.string ⟨(Lib.decDigits n).toArray⟩) ∧ Below w.heap.size w w' := by
  intro n
  induction n using Nat.strongRecOn with
  | ind n ih =>
    intro w hn
    have HCV : Hid (∀ T, (convert 22 9 (.slice (some ⟨w.heap.size, 0, none⟩) 1 1)).run Tryd.prog (w.alloc (.cells #[.int .u8 (48 + (n : Int) % 10)] T)) = .ok (.string ⟨#[UInt8.ofNat (48 + n % 10)]⟩) (w.alloc (.cells #[.int .u8 (48 + (n : Int) % 10)] T))) :=
      Lib.hid (fun T => conv1 w _ _ (by rw [digC _ (by omega)]; omega) T)
    have hcv := HCV.out
    by_cases h10 : n < 10
    · have e1 : Lib.decDigits n = [UInt8.ofNat (48 + n % 10)] := by rw [Lib.decDigits, dif_pos h10, show n % 10 = n by omega]
      have E1 := Lib.hid e1
      clear e1 ih
      generalize UInt8.ofNat (48 + n % 10) = D at *
      go_enter Tryd.func19, Tryd.ntmps19
      go_wp2_with fail
      go_ret
      exact ⟨by rw [E1.out]; rfl, below_al (Below.refl _ _) _⟩
    · have e1 : Lib.decDigits n = Lib.decDigits (n / 10) ++ [UInt8.ofNat (48 + n % 10)] := by rw [Lib.decDigits, dif_neg h10]
      have E1 := Lib.hid e1
      have IH := Lib.hid (fun w => ih (n / 10) (by omega) w (by omega))
      have hL := nD_le (n := n / 10) (by omega)
      have HC := Lib.hid (show ((n / 10 : Nat) : Int) = (n : Int) / 10 by omega)
      rw [HC.out] at IH
      clear e1 ih
      generalize UInt8.ofNat (48 + n % 10) = D at *
      generalize Lib.decDigits (n / 10) = L at *
      have HS : (⟨L.toArray⟩ : ByteArray).size = L.length := by simp [ByteArray.size]
      have HS2 : (⟨#[D]⟩ : ByteArray).size = 1 := rfl
      go_enter Tryd.func19, Tryd.ntmps19
      go_wp2_with fail
      refine (IH.out _).mono ?_
      rintro e w1 ⟨rfl, hb⟩
      have HB := Lib.hid hb
      clear hb
      go_wp2_with fail
      go_ret
      exact ⟨by rw [E1.out, ← app_mk]; rfl, below_then (below_al (Below.refl _ _) _) HB.out⟩
set_option maxHeartbeats 400000 in
theorem small_any (n : Int) (w : World) : Calls Tryd.prog 17 #[.int .i64 n] w fun e w' => e = .returned (.bool (decide (0 ≤ n) && decide (n ≤ 999999999))) ∧ w = w' := by
  go_enter Tryd.func17, Tryd.ntmps17
  go_wp2
  all_goals go_ret
  all_goals refine ⟨?_, rfl⟩
  all_goals (simp_all; try omega)
def names8 : List ByteArray := [⟨#[111, 112, 101, 110]⟩, ⟨#[98, 121, 116, 101, 115]⟩, ⟨#[99, 108, 111, 115, 101]⟩, ⟨#[98, 117, 100, 103, 101, 116]⟩, ⟨#[116, 105, 99, 107]⟩, ⟨#[112, 114, 111, 98, 101]⟩, ⟨#[98, 97, 99, 107]⟩, ⟨#[115, 116, 111, 112]⟩]
set_option maxHeartbeats 400000 in
theorem rnames_any (w : World) : Calls Tryd.prog 18 #[] w fun e w' => ∃ g, e = .returned (.slice (some ⟨g, 0, none⟩) 8 8) ∧ BlockIs w' g (names8.map Value.string) ∧ w.heap.size ≤ g ∧ Below w.heap.size w w' := by
  go_enter Tryd.func18, Tryd.ntmps18
  go_wp2
  go_ret
  exact ⟨_, rfl, BlockIs.new w (names8.map Value.string) _, Nat.le_refl _, below_al (Below.refl _ _) _⟩
end Go.Proofs.YtbjhmgdkjbphkaaDoor
