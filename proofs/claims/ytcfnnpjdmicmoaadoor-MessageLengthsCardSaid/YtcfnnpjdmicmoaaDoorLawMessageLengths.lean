/- The law MessageLengths: the program and the reference tell the same length of every list of headers. -/
import Derived.Test.YtcfnnpjdmicmoaaDoorMsgName
import Derived.Test.YtcfnnpjdmicmoaaDoorMsgLen
import Derived.Test.YtcfnnpjdmicmoaaDoorRows
namespace Go.Proofs.YtcfnnpjdmicmoaaDoor
open Go.RowKit
set_option maxHeartbeats 1000000 in
set_option maxRecDepth 100000 in
theorem messageLengths_walk (A : Option Addr) (cap : Nat) (l : List Hdr) (w : World) (hl : HdrsAt w A l) (hm : l.length * 40 ≤ 140737488351232) (hf : ∀ y ∈ l, y.fits) (_hL : laidMetH Tryd.prog Rows.messageLengthsRow.laid w) :
    Calls Tryd.prog 5 #[.slice A l.length cap] w fun e w' => e = .returned (.bool true) ∧ Below w.heap.size w w' := by
  have hlen : l.length ≤ maxLen := by unfold maxLen; omega
  have HL := Lib.hid hl
  have HF := Lib.hid hf
  clear hl hm hf
  go_enter Tryd.func5, Tryd.ntmps5
  go_wp2_with fail
  refine (len_any A cap l _ HL.out hlen HF.out).mono ?_
  unfold LenPost
  generalize hr : lenF l = r
  obtain ⟨r1, r2, r3⟩ := r
  rintro e w1 ⟨rfl, hb1⟩
  have HB1 := Lib.hid hb1
  have HR := Lib.hid hr
  clear hb1 hr
  go_wp2_with fail
  refine (rlen_any A cap l _ (HL.out.below HB1.out) hlen HF.out).mono ?_
  unfold LenPost
  rw [HR.out]
  rintro e w2 ⟨rfl, hb2⟩
  have HB2 := Lib.hid (below_then HB1.out hb2)
  clear hb2
  go_wp2_with fail
  refine (awake_any _).mono ?_
  rintro e w3 ⟨rfl, hb3⟩
  have HB3 := Lib.hid (below_then HB2.out hb3)
  clear hb3
  go_wp2_with fail
  go_ret
  exact ⟨rfl, HB3.out⟩
end Go.Proofs.YtcfnnpjdmicmoaaDoor
