/- The law StreamSteps: the program steps as the reference does, at every state and event. -/
import Derived.Test.YtpnghehigffcdaaStrStep
namespace Go.Proofs.Ytpnghehigffcdaa
open Go.RowKit
set_option maxHeartbeats 400000 in
set_option maxRecDepth 100000 in
theorem streamSteps_walk (state what : Int) (w : World) (_h1 : (Lit.int .i64 state).wf = true) (_h2 : (Lit.int .i64 what).wf = true) :
    Calls Try.prog 3 #[.int .i64 state, .int .i64 what] w fun e w' => e = .returned (.bool true) ∧ Below w.heap.size w w' := by
  go_enter Try.func3, Try.ntmps3
  generalize hr : stepF state what = r
  go_wp2_with fail
  refine (step_any _ _ _).mono ?_
  rw [hr]
  rintro e w1 ⟨rfl, hb1⟩
  have HB1 := Lib.hid hb1
  clear hb1
  unfold StepR.val
  go_wp2_with fail
  refine (rstep_any _ _ _).mono ?_
  rw [hr]
  rintro e w2 ⟨rfl, hb2⟩
  have HB2 := Lib.hid hb2
  clear hb2 hr
  unfold StepR.val
  go_wp2_with fail
  refine (awake_any _).mono ?_
  rintro e w3 ⟨rfl, hb3⟩
  have HB3 := Lib.hid hb3
  clear hb3
  go_wp2_with fail
  go_ret
  exact ⟨rfl, below_then (below_then HB1.out HB2.out) HB3.out⟩
end Go.Proofs.Ytpnghehigffcdaa
