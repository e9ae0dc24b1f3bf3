/- The walks of both pools' New at what may not be. -/
import Derived.Test.YtilkfcpdeeaifaaPoolSame
set_option linter.unusedVariables false
set_option linter.unusedSimpArgs false
set_option linter.unusedSectionVars false
namespace Go.Proofs.Ytilkfcpdeeaifaa
open Go.RowKit Go.Sort
def hokB (f r h : Int) : Prop := (1 ≤ f ∧ f ≤ 1000) ∧ (1 ≤ r ∧ r ≤ 1000) ∧ (0 ≤ h ∧ h ≤ 1073741824)
def pokB (n f r h retry most : Int) : Prop := hokB f r h ∧ (0 ≤ n ∧ n ≤ 16) ∧ (1 ≤ retry ∧ retry ≤ 1073741824) ∧ (1 ≤ most ∧ most ≤ 1073741824) ∧ retry ≤ most
set_option maxHeartbeats 400000 in
theorem ticks_bad (n : Int) (hn : ¬ (1 ≤ n ∧ n ≤ 1073741824)) (w : World) : Calls Try.prog 24 #[.int .i64 n] w fun e w' => e = .returned (.bool false) ∧ w = w' := by
  by_cases h1 : 1 ≤ n
  · have h2 : ¬ n ≤ 1073741824 := by omega
    go_enter Try.func24, Try.ntmps24
    go_wp2_with fail
    go_ret
    exact ⟨rfl, rfl⟩
  · go_enter Try.func24, Try.ntmps24
    go_wp2_with fail
    go_ret
    exact ⟨rfl, rfl⟩
set_option maxHeartbeats 4000000 in
set_option maxRecDepth 100000 in
theorem hnew_bad (f r h : Int) (hb : ¬ hokB f r h) (w : World) :
    Calls Try.prog 23 #[.agg #[.int .i64 f, .int .i64 r, .int .i64 h]] w fun e w' => e = .returned (.tuple #[.pointer none, .int .i64 1]) ∧ Below w.heap.size w w' := by
  unfold hokB at hb
  by_cases a0 : f < 1
  · clear hb
    go_enter Try.func23, Try.ntmps23
    go_wp2_with fail
    try go_region
    try go_wp2_with fail
    go_ret2
    exact ⟨rfl, by first | exact below_al (Below.refl _ _) _ | exact (below_al (Below.refl _ _) _).drew⟩
  replace a0 : 1 ≤ f := by omega
  by_cases a1 : 1000 < f
  · clear hb
    go_enter Try.func23, Try.ntmps23
    go_wp2_with fail
    try go_region
    try go_wp2_with fail
    go_ret2
    exact ⟨rfl, by first | exact below_al (Below.refl _ _) _ | exact (below_al (Below.refl _ _) _).drew⟩
  replace a1 : f ≤ 1000 := by omega
  by_cases a2 : r < 1
  · clear hb
    go_enter Try.func23, Try.ntmps23
    go_wp2_with fail
    try go_region
    try go_wp2_with fail
    go_ret2
    exact ⟨rfl, by first | exact below_al (Below.refl _ _) _ | exact (below_al (Below.refl _ _) _).drew⟩
  replace a2 : 1 ≤ r := by omega
  by_cases a3 : 1000 < r
  · clear hb
    go_enter Try.func23, Try.ntmps23
    go_wp2_with fail
    try go_region
    try go_wp2_with fail
    go_ret2
    exact ⟨rfl, by first | exact below_al (Below.refl _ _) _ | exact (below_al (Below.refl _ _) _).drew⟩
  replace a3 : r ≤ 1000 := by omega
  by_cases a4 : h < 0
  · clear hb
    go_enter Try.func23, Try.ntmps23
    go_wp2_with fail
    try go_region
    try go_wp2_with fail
    go_ret2
    exact ⟨rfl, by first | exact below_al (Below.refl _ _) _ | exact (below_al (Below.refl _ _) _).drew⟩
  replace a4 : 0 ≤ h := by omega
  have a5 : 1073741824 < h := by omega
  clear hb
  go_enter Try.func23, Try.ntmps23
  go_wp2_with fail
  try go_region
  try go_wp2_with fail
  go_ret2
  exact ⟨rfl, by first | exact below_al (Below.refl _ _) _ | exact (below_al (Below.refl _ _) _).drew⟩
set_option maxHeartbeats 4000000 in
set_option maxRecDepth 100000 in
theorem pnew_bad (n f r h retry most : Int) (hb : ¬ pokB n f r h retry most) (w : World) :
    Calls Try.prog 7 #[.int .i64 n, .agg #[.int .i64 f, .int .i64 r, .int .i64 h], .int .i64 retry, .int .i64 most] w fun e w' => e = .returned (.tuple #[.pointer none, .int .i64 1]) ∧ Below w.heap.size w w' := by
  unfold pokB at hb
  by_cases ah : hokB f r h
  · have HH := Lib.hid (fun w => hnew_any f r h ah.1 ah.2.1 ah.2.2 w)
    by_cases a1 : n < 0
    · clear hb ah
      go_enter Try.func7, Try.ntmps7
      go_wp2_with fail
      refine (HH.out _).mono ?_
      rintro e w1 ⟨mb0, rfl, _, _, hb1⟩
      have HB1 : Hid (Below w.heap.size w w1) := Lib.hid (below_then (below_al (Below.refl _ _) _) hb1)
      clear hb1
      go_wp2_with fail
      go_ret2
      exact ⟨rfl, HB1.out⟩
    replace a1 : 0 ≤ n := by omega
    by_cases a2 : 16 < n
    · clear hb ah
      go_enter Try.func7, Try.ntmps7
      go_wp2_with fail
      refine (HH.out _).mono ?_
      rintro e w1 ⟨mb0, rfl, _, _, hb1⟩
      have HB1 : Hid (Below w.heap.size w w1) := Lib.hid (below_then (below_al (Below.refl _ _) _) hb1)
      clear hb1
      go_wp2_with fail
      go_ret2
      exact ⟨rfl, HB1.out⟩
    replace a2 : n ≤ 16 := by omega
    have q1 : decide (n < 0) = false := by simp; omega
    have q2 : decide (16 < n) = false := by simp; omega
    by_cases a3 : 1 ≤ retry ∧ retry ≤ 1073741824
    · have HT1 := Lib.hid (fun w => ticks_any retry a3 w)
      by_cases a4 : 1 ≤ most ∧ most ≤ 1073741824
      · have HT2 := Lib.hid (fun w => ticks_any most a4 w)
        have q3 : decide (most < retry) = true := by
          rw [decide_eq_true_iff]
          by_cases h9 : most < retry
          · exact h9
          · exact absurd ⟨ah, ⟨a1, a2⟩, a3, a4, by omega⟩ hb
        clear hb ah a3 a4
        go_enter Try.func7, Try.ntmps7
        go_wp2_with fail
        refine (HH.out _).mono ?_
        rintro e w1 ⟨mb0, rfl, _, _, hb1⟩
        have HB1 : Hid (Below w.heap.size w w1) := Lib.hid (below_then (below_al (Below.refl _ _) _) hb1)
        clear hb1
        go_wp2_with (first | (go_at_call 24; first | (refine (HT1.out _).mono ?_; rintro e wq ⟨rfl, rfl⟩) | (refine (HT2.out _).mono ?_; rintro e wq ⟨rfl, rfl⟩)))
        go_ret2
        exact ⟨rfl, HB1.out⟩
      · have HT2 := Lib.hid (fun w => ticks_bad most a4 w)
        clear hb ah a3 a4
        go_enter Try.func7, Try.ntmps7
        go_wp2_with fail
        refine (HH.out _).mono ?_
        rintro e w1 ⟨mb0, rfl, _, _, hb1⟩
        have HB1 : Hid (Below w.heap.size w w1) := Lib.hid (below_then (below_al (Below.refl _ _) _) hb1)
        clear hb1
        go_wp2_with (first | (go_at_call 24; first | (refine (HT1.out _).mono ?_; rintro e wq ⟨rfl, rfl⟩) | (refine (HT2.out _).mono ?_; rintro e wq ⟨rfl, rfl⟩)))
        go_ret2
        exact ⟨rfl, HB1.out⟩
    · have HT1 := Lib.hid (fun w => ticks_bad retry a3 w)
      have HT2 := HT1
      clear hb ah a3
      go_enter Try.func7, Try.ntmps7
      go_wp2_with fail
      refine (HH.out _).mono ?_
      rintro e w1 ⟨mb0, rfl, _, _, hb1⟩
      have HB1 : Hid (Below w.heap.size w w1) := Lib.hid (below_then (below_al (Below.refl _ _) _) hb1)
      clear hb1
      go_wp2_with (first | (go_at_call 24; first | (refine (HT1.out _).mono ?_; rintro e wq ⟨rfl, rfl⟩) | (refine (HT2.out _).mono ?_; rintro e wq ⟨rfl, rfl⟩)))
      go_ret2
      exact ⟨rfl, HB1.out⟩
  · have HH := Lib.hid (fun w => hnew_bad f r h ah w)
    clear hb ah
    go_enter Try.func7, Try.ntmps7
    go_wp2_with fail
    refine (HH.out _).mono ?_
    rintro e w1 ⟨rfl, hb1⟩
    have HB1 : Hid (Below w.heap.size w w1) := Lib.hid (below_then (below_al (Below.refl _ _) _) hb1)
    clear hb1
    go_wp2_with fail
    go_ret2
    exact ⟨rfl, HB1.out⟩
namespace Rf
set_option maxHeartbeats 4000000 in
set_option maxRecDepth 100000 in
theorem hnew_bad (f r h : Int) (hb : ¬ hokB f r h) (w : World) :
    Calls Try.prog 33 #[.agg #[.int .i64 f, .int .i64 r, .int .i64 h]] w fun e w' => e = .returned (.tuple #[.pointer none, .int .i64 1]) ∧ Below w.heap.size w w' := by
  unfold hokB at hb
  by_cases a0 : f < 1
  · clear hb
    go_enter Try.func33, Try.ntmps33
    go_wp2_with fail
    try go_region
    try go_wp2_with fail
    go_ret2
    exact ⟨rfl, by first | exact below_al (Below.refl _ _) _ | exact (below_al (Below.refl _ _) _).drew⟩
  replace a0 : 1 ≤ f := by omega
  by_cases a1 : 1000 < f
  · clear hb
    go_enter Try.func33, Try.ntmps33
    go_wp2_with fail
    try go_region
    try go_wp2_with fail
    go_ret2
    exact ⟨rfl, by first | exact below_al (Below.refl _ _) _ | exact (below_al (Below.refl _ _) _).drew⟩
  replace a1 : f ≤ 1000 := by omega
  by_cases a2 : r < 1
  · clear hb
    go_enter Try.func33, Try.ntmps33
    go_wp2_with fail
    try go_region
    try go_wp2_with fail
    go_ret2
    exact ⟨rfl, by first | exact below_al (Below.refl _ _) _ | exact (below_al (Below.refl _ _) _).drew⟩
  replace a2 : 1 ≤ r := by omega
  by_cases a3 : 1000 < r
  · clear hb
    go_enter Try.func33, Try.ntmps33
    go_wp2_with fail
    try go_region
    try go_wp2_with fail
    go_ret2
    exact ⟨rfl, by first | exact below_al (Below.refl _ _) _ | exact (below_al (Below.refl _ _) _).drew⟩
  replace a3 : r ≤ 1000 := by omega
  by_cases a4 : h < 0
  · clear hb
    go_enter Try.func33, Try.ntmps33
    go_wp2_with fail
    try go_region
    try go_wp2_with fail
    go_ret2
    exact ⟨rfl, by first | exact below_al (Below.refl _ _) _ | exact (below_al (Below.refl _ _) _).drew⟩
  replace a4 : 0 ≤ h := by omega
  have a5 : 1073741824 < h := by omega
  clear hb
  go_enter Try.func33, Try.ntmps33
  go_wp2_with fail
  try go_region
  try go_wp2_with fail
  go_ret2
  exact ⟨rfl, by first | exact below_al (Below.refl _ _) _ | exact (below_al (Below.refl _ _) _).drew⟩
set_option maxHeartbeats 4000000 in
set_option maxRecDepth 100000 in
theorem rpnew_bad (n f r h retry most : Int) (hb : ¬ pokB n f r h retry most) (w : World) :
    Calls Try.prog 18 #[.int .i64 n, .agg #[.int .i64 f, .int .i64 r, .int .i64 h], .int .i64 retry, .int .i64 most] w fun e w' => e = .returned (.tuple #[.pointer none, .int .i64 1]) ∧ Below w.heap.size w w' := by
  unfold pokB at hb
  by_cases ah : hokB f r h
  · have HH := Lib.hid (fun w => hnew_any f r h ah.1 ah.2.1 ah.2.2 w)
    by_cases a0 : n < 0
    · have q0 : decide (n < 0) = true := decide_eq_true a0
      clear hb ah
      go_enter Try.func18, Try.ntmps18
      go_wp2_with fail
      refine (HH.out _).mono ?_
      rintro e w1 ⟨mb0, rfl, _, _, hb1⟩
      have HB1 : Hid (Below w.heap.size w w1) := Lib.hid (below_then (below_al (Below.refl _ _) _) hb1)
      clear hb1
      go_wp2_with fail
      go_ret2
      exact ⟨rfl, HB1.out⟩
    replace a0 : 0 ≤ n := by omega
    have q0 : decide (n < 0) = false := by simp; omega
    by_cases a1 : 16 < n
    · have q1 : decide (16 < n) = true := decide_eq_true a1
      clear hb ah
      go_enter Try.func18, Try.ntmps18
      go_wp2_with fail
      refine (HH.out _).mono ?_
      rintro e w1 ⟨mb0, rfl, _, _, hb1⟩
      have HB1 : Hid (Below w.heap.size w w1) := Lib.hid (below_then (below_al (Below.refl _ _) _) hb1)
      clear hb1
      go_wp2_with fail
      go_ret2
      exact ⟨rfl, HB1.out⟩
    replace a1 : n ≤ 16 := by omega
    have q1 : decide (16 < n) = false := by simp; omega
    by_cases a3 : retry < 1
    · have q3 : decide (retry < 1) = true := decide_eq_true a3
      clear hb ah
      go_enter Try.func18, Try.ntmps18
      go_wp2_with fail
      refine (HH.out _).mono ?_
      rintro e w1 ⟨mb0, rfl, _, _, hb1⟩
      have HB1 : Hid (Below w.heap.size w w1) := Lib.hid (below_then (below_al (Below.refl _ _) _) hb1)
      clear hb1
      go_wp2_with fail
      go_ret2
      exact ⟨rfl, HB1.out⟩
    replace a3 : 1 ≤ retry := by omega
    have q3 : decide (retry < 1) = false := by simp; omega
    by_cases a4 : 1073741824 < retry
    · have q4 : decide (1073741824 < retry) = true := decide_eq_true a4
      clear hb ah
      go_enter Try.func18, Try.ntmps18
      go_wp2_with fail
      refine (HH.out _).mono ?_
      rintro e w1 ⟨mb0, rfl, _, _, hb1⟩
      have HB1 : Hid (Below w.heap.size w w1) := Lib.hid (below_then (below_al (Below.refl _ _) _) hb1)
      clear hb1
      go_wp2_with fail
      go_ret2
      exact ⟨rfl, HB1.out⟩
    replace a4 : retry ≤ 1073741824 := by omega
    have q4 : decide (1073741824 < retry) = false := by simp; omega
    by_cases a5 : most < 1
    · have q5 : decide (most < 1) = true := decide_eq_true a5
      clear hb ah
      go_enter Try.func18, Try.ntmps18
      go_wp2_with fail
      refine (HH.out _).mono ?_
      rintro e w1 ⟨mb0, rfl, _, _, hb1⟩
      have HB1 : Hid (Below w.heap.size w w1) := Lib.hid (below_then (below_al (Below.refl _ _) _) hb1)
      clear hb1
      go_wp2_with fail
      go_ret2
      exact ⟨rfl, HB1.out⟩
    replace a5 : 1 ≤ most := by omega
    have q5 : decide (most < 1) = false := by simp; omega
    by_cases a6 : 1073741824 < most
    · have q6 : decide (1073741824 < most) = true := decide_eq_true a6
      clear hb ah
      go_enter Try.func18, Try.ntmps18
      go_wp2_with fail
      refine (HH.out _).mono ?_
      rintro e w1 ⟨mb0, rfl, _, _, hb1⟩
      have HB1 : Hid (Below w.heap.size w w1) := Lib.hid (below_then (below_al (Below.refl _ _) _) hb1)
      clear hb1
      go_wp2_with fail
      go_ret2
      exact ⟨rfl, HB1.out⟩
    replace a6 : most ≤ 1073741824 := by omega
    have q6 : decide (1073741824 < most) = false := by simp; omega
    have a8 : most < retry := by
      by_cases h9 : most < retry
      · exact h9
      · exact absurd ⟨ah, ⟨a0, a1⟩, ⟨a3, a4⟩, ⟨a5, a6⟩, by omega⟩ hb
    have q8 : decide (most < retry) = true := decide_eq_true a8
    clear hb ah
    go_enter Try.func18, Try.ntmps18
    go_wp2_with fail
    refine (HH.out _).mono ?_
    rintro e w1 ⟨mb0, rfl, _, _, hb1⟩
    have HB1 : Hid (Below w.heap.size w w1) := Lib.hid (below_then (below_al (Below.refl _ _) _) hb1)
    clear hb1
    go_wp2_with fail
    go_ret2
    exact ⟨rfl, HB1.out⟩
  · have HH := Lib.hid (fun w => hnew_bad f r h ah w)
    clear hb ah
    by_cases a0 : n < 0
    · have q0 : decide (n < 0) = true := decide_eq_true a0
      go_enter Try.func18, Try.ntmps18
      go_wp2_with fail
      refine (HH.out _).mono ?_
      rintro e w1 ⟨rfl, hb1⟩
      have HB1 : Hid (Below w.heap.size w w1) := Lib.hid (below_then (below_al (Below.refl _ _) _) hb1)
      clear hb1
      go_wp2_with fail
      go_ret2
      exact ⟨rfl, HB1.out⟩
    have q0 : decide (n < 0) = false := decide_eq_false a0
    by_cases a1 : 16 < n
    · have q1 : decide (16 < n) = true := decide_eq_true a1
      go_enter Try.func18, Try.ntmps18
      go_wp2_with fail
      refine (HH.out _).mono ?_
      rintro e w1 ⟨rfl, hb1⟩
      have HB1 : Hid (Below w.heap.size w w1) := Lib.hid (below_then (below_al (Below.refl _ _) _) hb1)
      clear hb1
      go_wp2_with fail
      go_ret2
      exact ⟨rfl, HB1.out⟩
    have q1 : decide (16 < n) = false := decide_eq_false a1
    go_enter Try.func18, Try.ntmps18
    go_wp2_with fail
    refine (HH.out _).mono ?_
    rintro e w1 ⟨rfl, hb1⟩
    have HB1 : Hid (Below w.heap.size w w1) := Lib.hid (below_then (below_al (Below.refl _ _) _) hb1)
    clear hb1
    go_wp2_with fail
    go_ret2
    exact ⟨rfl, HB1.out⟩
end Rf
end Go.Proofs.Ytilkfcpdeeaifaa
