/- The law MessageTrailers: every list is trailers for the program just where it is for the reference, or for the same reason not. -/
import Derived.Test.YtcfnnpjdmicmoaaDoorMsgRTrail
namespace Go.Proofs.YtcfnnpjdmicmoaaDoor
open Go.RowKit
set_option maxHeartbeats 1000000 in
set_option maxRecDepth 100000 in
theorem rtrailers_any (A : Option Addr) (cap : Nat) (l : List Hdr) (w : World) (hl : HdrsAt w A l) (hm : l.length ≤ maxLen) (hcap : l.length ≤ cap) (hf : ∀ y ∈ l, y.fits) :
    Calls Tryd.prog 13 #[.slice A l.length cap] w fun e w' => e = .returned (.int .i64 (trailF l)) ∧ Below w.heap.size w w' := by
  have HW := Lib.hid (each0_any A cap l w hl hm hcap hf)
  go_enter Tryd.func13, Tryd.ntmps13
  go_wp2_with fail
  refine HW.out.mono ?_
  rintro e w1 ⟨rfl, hb⟩
  have HB := Lib.hid hb
  clear hb
  go_wp2_with fail
  go_ret
  exact ⟨rfl, HB.out⟩
set_option maxHeartbeats 1000000 in
set_option maxRecDepth 100000 in
theorem messageTrailers_walk (A : Option Addr) (cap : Nat) (l : List Hdr) (w : World) (hl : HdrsAt w A l) (hm : l.length * 40 ≤ 140737488351232) (hf : ∀ y ∈ l, y.fits) (hcap : l.length ≤ cap) (_hL : laidMetH Tryd.prog Rows.messageTrailersRow.laid w) :
    Calls Tryd.prog 4 #[.slice A l.length cap] w fun e w' => e = .returned (.bool true) ∧ Below w.heap.size w w' := by
  have hlen : l.length ≤ maxLen := by unfold maxLen; omega
  have H1 := Lib.hid (trailers_any A cap l w hl hlen hf)
  have H2 : Hid (∀ w', Below w.heap.size w w' → Calls Tryd.prog 13 #[.slice A l.length cap] w' fun e w'' => e = .returned (.int .i64 (trailF l)) ∧ Below w'.heap.size w' w'') := Lib.hid (fun w' hb => rtrailers_any A cap l w' (hl.below hb) hlen hcap hf)
  clear hl hm hf _hL hcap
  generalize trailF l = r at *
  go_enter Tryd.func4, Tryd.ntmps4
  go_wp2_with fail
  refine H1.out.mono ?_
  rintro e w1 ⟨rfl, hb⟩
  have HB1 := Lib.hid hb
  clear hb
  go_wp2_with fail
  refine (H2.out _ HB1.out).mono ?_
  rintro e w2 ⟨rfl, hb⟩
  have HB2 := Lib.hid (below_then HB1.out hb)
  clear hb
  go_wp2_with fail
  refine (awake_any _).mono ?_
  rintro e w3 ⟨rfl, hb⟩
  have HB3 := Lib.hid (below_then HB2.out hb)
  clear hb
  go_wp2_with fail
  go_ret
  exact ⟨rfl, HB3.out⟩
end Go.Proofs.YtcfnnpjdmicmoaaDoor
