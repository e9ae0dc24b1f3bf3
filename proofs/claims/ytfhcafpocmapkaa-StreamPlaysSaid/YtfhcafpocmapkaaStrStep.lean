/- The walks of stream.Step and aqueductref10.Step: both answer what one plain function says, and write nothing that was there. -/
import Derived.Test.YtfhcafpocmapkaaKit
set_option linter.unusedVariables false
set_option linter.unusedSimpArgs false
set_option linter.unusedSectionVars false
namespace Go.Proofs.Ytfhcafpocmapkaa
open Go.RowKit

def tabB : Nat → ByteArray
  | 0 => ⟨#[49, 49, 50, 83, 67]⟩
  | 1 => ⟨#[51, 51, 52, 83, 67]⟩
  | 2 => ⟨#[80, 49, 50, 83, 67]⟩
  | 3 => ⟨#[80, 52, 52, 52, 52]⟩
  | 4 => ⟨#[80, 49, 50, 51, 52]⟩
  | 5 => ⟨#[49, 49, 45, 51, 45]⟩
  | 6 => ⟨#[50, 50, 45, 52, 45]⟩
  | 7 => ⟨#[45, 49, 45, 51, 45]⟩
  | _ => ⟨#[45, 52, 52, 52, 45]⟩
theorem tab_size (k : Nat) : (tabB k).size = 5 := by unfold tabB; split <;> rfl
def tabC (what state : Nat) : Nat := ((tabB what).data.toList.getD state 0).toNat
/-- The next state, the kind of a fault, its code, the error. -/
structure StepR where
  next : Int
  kind : Int
  code : Int
  err : Int
def stepC (state : Nat) (c : Nat) : StepR :=
  if c = 45 then ⟨state, 0, 0, 5⟩ else if c = 83 then ⟨state, 1, 5, 0⟩ else if c = 67 then ⟨state, 2, 5, 0⟩ else if c = 80 then ⟨state, 2, 1, 0⟩ else ⟨c - 48, 0, 0, 0⟩
def stepF (state what : Int) : StepR := if 0 ≤ state ∧ state ≤ 4 ∧ 0 ≤ what ∧ what ≤ 8 then stepC state.toNat (tabC what.toNat state.toNat) else ⟨0, 0, 0, 1⟩
def StepR.val (r : StepR) : Value := .tuple #[.int .i64 r.next, .int .i64 r.kind, .int .i64 r.code, .int .i64 r.err]
theorem tabC_fin : ∀ what, what < 9 → ∀ state, state < 5 → tabC what state ∈ [45, 83, 67, 80, 49, 50, 51, 52] := by decide +kernel
theorem tab_get (what state : Nat) (h : state < (tabB what).size) : ((tabB what)[state]).toNat = tabC what state := by
  unfold tabC
  rw [List.getD_eq_getElem?_getD, List.getElem?_eq_getElem (by simpa using h)]; rfl
def tabV : Value := .agg #[.string (tabB 0), .string (tabB 1), .string (tabB 2), .string (tabB 3), .string (tabB 4), .string (tabB 5), .string (tabB 6), .string (tabB 7), .string (tabB 8)]
theorem idx_tab0 (w : World) : (Instr.index 73 tabV (.int .i64 0)).run Try.prog w = .ok (.string (tabB 0)) w := by kernel_rfl
theorem idx_tab1 (w : World) : (Instr.index 73 tabV (.int .i64 1)).run Try.prog w = .ok (.string (tabB 1)) w := by kernel_rfl
theorem idx_tab2 (w : World) : (Instr.index 73 tabV (.int .i64 2)).run Try.prog w = .ok (.string (tabB 2)) w := by kernel_rfl
theorem idx_tab3 (w : World) : (Instr.index 73 tabV (.int .i64 3)).run Try.prog w = .ok (.string (tabB 3)) w := by kernel_rfl
theorem idx_tab4 (w : World) : (Instr.index 73 tabV (.int .i64 4)).run Try.prog w = .ok (.string (tabB 4)) w := by kernel_rfl
theorem idx_tab5 (w : World) : (Instr.index 73 tabV (.int .i64 5)).run Try.prog w = .ok (.string (tabB 5)) w := by kernel_rfl
theorem idx_tab6 (w : World) : (Instr.index 73 tabV (.int .i64 6)).run Try.prog w = .ok (.string (tabB 6)) w := by kernel_rfl
theorem idx_tab7 (w : World) : (Instr.index 73 tabV (.int .i64 7)).run Try.prog w = .ok (.string (tabB 7)) w := by kernel_rfl
theorem idx_tab8 (w : World) : (Instr.index 73 tabV (.int .i64 8)).run Try.prog w = .ok (.string (tabB 8)) w := by kernel_rfl
theorem idx_tab (k : Nat) (hk : k < 9) (w : World) : (Instr.index 73 tabV (.int .i64 k)).run Try.prog w = .ok (.string (tabB k)) w := by
  have : k = 0 ∨ k = 1 ∨ k = 2 ∨ k = 3 ∨ k = 4 ∨ k = 5 ∨ k = 6 ∨ k = 7 ∨ k = 8 := by omega
  rcases this with rfl | rfl | rfl | rfl | rfl | rfl | rfl | rfl | rfl
  · exact idx_tab0 w
  · exact idx_tab1 w
  · exact idx_tab2 w
  · exact idx_tab3 w
  · exact idx_tab4 w
  · exact idx_tab5 w
  · exact idx_tab6 w
  · exact idx_tab7 w
  · exact idx_tab8 w

set_option maxHeartbeats 1000000 in
set_option maxRecDepth 100000 in
theorem table_any (w : World) : Calls Try.prog 39 #[] w fun e w' => e = .returned tabV ∧ Below w.heap.size w w' := by
  go_enter Try.func39, Try.ntmps39
  go_wp2
  refine bodyPost_ret (v := tabV) (by simp [results, Try.results39, go_sem]; rfl) rfl ⟨rfl, below_al (Below.refl _ _) _⟩

theorem nat_eq_of {c : Nat} {m : Int} (h : ((c : Int) == m) = true) (hm : 0 ≤ m) : c = m.toNat := by rw [beq_num _ _ hm] at h; simpa using h
theorem nat_ne_of {c : Nat} {m : Int} (h : ((c : Int) == m) = false) (hm : 0 ≤ m) : ¬ c = m.toNat := by rw [beq_num _ _ hm] at h; simpa using h
theorem way45 {s c : Nat} (h : ((c : Int) == 45) = true) : stepC s c = ⟨s, 0, 0, 5⟩ := by
  obtain rfl := nat_eq_of h (by omega)
  rfl
theorem way83 {s c : Nat} (h : ((c : Int) == 83) = true) : stepC s c = ⟨s, 1, 5, 0⟩ := by
  obtain rfl := nat_eq_of h (by omega)
  rfl
theorem way67 {s c : Nat} (h : ((c : Int) == 67) = true) : stepC s c = ⟨s, 2, 5, 0⟩ := by
  obtain rfl := nat_eq_of h (by omega)
  rfl
theorem way80 {s c : Nat} (h : ((c : Int) == 80) = true) : stepC s c = ⟨s, 2, 1, 0⟩ := by
  obtain rfl := nat_eq_of h (by omega)
  rfl
theorem way0 {s c : Nat} (h1 : ((c : Int) == 45) = false) (h2 : ((c : Int) == 83) = false) (h3 : ((c : Int) == 67) = false) (h4 : ((c : Int) == 80) = false) (hc1 : 45 ≤ c) (hc2 : c ≤ 83) (hc3 : c ≠ 46) (hc4 : c ≠ 47) : stepC s c = ⟨((c : Int) - 48) % 256, 0, 0, 0⟩ := by
  have n1 : c ≠ 45 := nat_ne_of h1 (by omega)
  have n2 : c ≠ 83 := nat_ne_of h2 (by omega)
  have n3 : c ≠ 67 := nat_ne_of h3 (by omega)
  have n4 : c ≠ 80 := nat_ne_of h4 (by omega)
  rw [stepC, if_neg n1, if_neg n2, if_neg n3, if_neg n4]
  have : ((c : Int) - 48) % 256 = (c : Int) - 48 := by omega
  rw [this]

theorem step_out {state what : Int} (h : ¬ (0 ≤ state ∧ state ≤ 4 ∧ 0 ≤ what ∧ what ≤ 8)) : (stepF state what).val = .tuple #[.int .i64 0, .int .i64 0, .int .i64 0, .int .i64 1] := by
  rw [stepF, if_neg h]; rfl

set_option maxHeartbeats 1000000 in
set_option maxRecDepth 100000 in
theorem step_any (state what : Int) (w : World) : Calls Try.prog 25 #[.int .i64 state, .int .i64 what] w fun e w' => e = .returned (stepF state what).val ∧ Below w.heap.size w w' := by
  by_cases hin : 0 ≤ state ∧ state ≤ 4 ∧ 0 ≤ what ∧ what ≤ 8
  · obtain ⟨h1, h2, h3, h4⟩ := hin
    obtain ⟨s, rfl⟩ := Int.eq_ofNat_of_zero_le h1
    obtain ⟨k, rfl⟩ := Int.eq_ofNat_of_zero_le h3
    have hk : k < 9 := by omega
    have hs : s < 5 := by omega
    have hx := fun w => idx_tab k hk w
    have HF := Lib.hid (show stepF s k = stepC s (tabC k s) by rw [stepF, if_pos ⟨h1, h2, h3, h4⟩]; rfl)
    have HT := Lib.hid (tabC_fin k hk s hs)
    have hsz := tab_size k
    have hlt : s < (tabB k).size := by omega
    have HG := Lib.hid (tab_get k s hlt)
    have HC := Lib.hid (show 45 ≤ (tabB k)[s].toNat ∧ (tabB k)[s].toNat ≤ 83 ∧ (tabB k)[s].toNat ≠ 46 ∧ (tabB k)[s].toNat ≠ 47 by
      rw [tab_get]
      have := HT.out
      simp only [List.mem_cons, List.not_mem_nil, or_false] at this
      omega)
    clear hsz
    go_enter Try.func25, Try.ntmps25
    go_wp2_with (go_at_call 39; refine (table_any _).mono ?_; rintro e w1 ⟨rfl, hb⟩; have HB := Lib.hid hb; clear hb)
    all_goals refine bodyPost_ret (results_tmp4 rfl _ _ _) rfl ⟨?_, HB.out⟩
    all_goals rw [HF.out, ← HG.out]
    all_goals first | (rw [way45 (by assumption)]; rfl) | (rw [way83 (by assumption)]; rfl) | (rw [way67 (by assumption)]; rfl) | (rw [way80 (by assumption)]; rfl) | (rw [way0 (by assumption) (by assumption) (by assumption) (by assumption) HC.out.1 HC.out.2.1 HC.out.2.2.1 HC.out.2.2.2]; rfl)
  · have HO := Lib.hid (step_out hin)
    have hin' : state < 0 ∨ 4 < state ∨ what < 0 ∨ 8 < what := by omega
    go_enter Try.func25, Try.ntmps25
    go_wp2_with fail
    all_goals refine bodyPost_ret (results_tmp4 rfl _ _ _) rfl ⟨by rw [HO.out]; rfl, Below.refl _ _⟩

set_option maxHeartbeats 1000000 in
set_option maxRecDepth 100000 in
theorem steps_any (w : World) : Calls Try.prog 42 #[] w fun e w' => e = .returned (.slice (some ⟨w.heap.size, 0, none⟩) 9 9) ∧
    w' = w.alloc (.cells #[.string (tabB 0), .string (tabB 1), .string (tabB 2), .string (tabB 3), .string (tabB 4), .string (tabB 5), .string (tabB 6), .string (tabB 7), .string (tabB 8)] 9) := by
  go_enter Try.func42, Try.ntmps42
  go_wp2
  go_ret
  exact ⟨rfl, rfl⟩

theorem tab_cells (w : World) (k : Nat) (hk : k < 9) : (w.alloc (.cells #[.string (tabB 0), .string (tabB 1), .string (tabB 2), .string (tabB 3), .string (tabB 4), .string (tabB 5), .string (tabB 6), .string (tabB 7), .string (tabB 8)] 9)).cell? ⟨w.heap.size, k, none⟩ = some (.string (tabB k)) := by
  rw [World.cell?_alloc_new]
  have : k = 0 ∨ k = 1 ∨ k = 2 ∨ k = 3 ∨ k = 4 ∨ k = 5 ∨ k = 6 ∨ k = 7 ∨ k = 8 := by omega
  rcases this with rfl | rfl | rfl | rfl | rfl | rfl | rfl | rfl | rfl <;> rfl

set_option maxHeartbeats 1000000 in
set_option maxRecDepth 100000 in
theorem rstep_any (state what : Int) (w : World) : Calls Try.prog 37 #[.int .i64 state, .int .i64 what] w fun e w' => e = .returned (stepF state what).val ∧ Below w.heap.size w w' := by
  by_cases hin : 0 ≤ state ∧ state ≤ 4 ∧ 0 ≤ what ∧ what ≤ 8
  · obtain ⟨h1, h2, h3, h4⟩ := hin
    obtain ⟨s, rfl⟩ := Int.eq_ofNat_of_zero_le h1
    obtain ⟨k, rfl⟩ := Int.eq_ofNat_of_zero_le h3
    have hk : k < 9 := by omega
    have hs : s < 5 := by omega
    have hx := tab_cells w k hk
    have HF := Lib.hid (show stepF s k = stepC s (tabC k s) by rw [stepF, if_pos ⟨h1, h2, h3, h4⟩]; rfl)
    have HT := Lib.hid (tabC_fin k hk s hs)
    have hsz := tab_size k
    have hlt : s < (tabB k).size := by omega
    have HG := Lib.hid (tab_get k s hlt)
    have HC := Lib.hid (show 45 ≤ (tabB k)[s].toNat ∧ (tabB k)[s].toNat ≤ 83 ∧ (tabB k)[s].toNat ≠ 46 ∧ (tabB k)[s].toNat ≠ 47 by
      rw [tab_get]
      have := HT.out
      simp only [List.mem_cons, List.not_mem_nil, or_false] at this
      omega)
    clear hsz
    go_enter Try.func37, Try.ntmps37
    go_wp2_with fail
    refine (steps_any _).mono ?_
    rintro e w1 ⟨rfl, rfl⟩
    go_wp2_with fail
    all_goals refine bodyPost_ret (results_tmp4 rfl _ _ _) rfl ⟨?_, below_al (Below.refl _ _) _⟩
    all_goals rw [HF.out, ← HG.out]
    all_goals first | (rw [way45 (by assumption)]; rfl) | (rw [way83 (by assumption)]; rfl) | (rw [way67 (by assumption)]; rfl) | (rw [way80 (by assumption)]; rfl) | (rw [way0 (by assumption) (by assumption) (by assumption) (by assumption) HC.out.1 HC.out.2.1 HC.out.2.2.1 HC.out.2.2.2]; rfl)
  · have HO := Lib.hid (step_out hin)
    have hin' : state < 0 ∨ 4 < state ∨ what < 0 ∨ 8 < what := by omega
    go_enter Try.func37, Try.ntmps37
    go_wp2_with fail
    refine (steps_any _).mono ?_
    rintro e w1 ⟨rfl, rfl⟩
    go_wp2_with fail
    all_goals refine bodyPost_ret (results_tmp4 rfl _ _ _) rfl ⟨by rw [HO.out]; rfl, below_al (Below.refl _ _) _⟩

set_option maxHeartbeats 400000 in
set_option maxRecDepth 100000 in
theorem awake_any (w : World) : Calls Try.prog 12 #[] w fun e w' => e = .returned (.bool true) ∧ Below w.heap.size w w' := by
  go_enter Try.func12, Try.ntmps12
  go_wp2_with fail
  refine (step_any _ _ _).mono ?_
  have h : (stepF 0 1).val = .tuple #[.int .i64 3, .int .i64 0, .int .i64 0, .int .i64 0] := rfl
  rw [h]
  rintro e w1 ⟨rfl, hb⟩
  have HB := Lib.hid hb
  clear hb h
  go_wp2_with fail
  go_ret
  exact ⟨rfl, HB.out⟩
end Go.Proofs.Ytfhcafpocmapkaa
