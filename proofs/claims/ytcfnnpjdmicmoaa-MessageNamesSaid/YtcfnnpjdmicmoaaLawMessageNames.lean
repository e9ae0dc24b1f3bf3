/- The law MessageNames: every text is a name of the program's just where it is one of the reference's. -/
import Derived.Test.YtcfnnpjdmicmoaaMsgName
namespace Go.Proofs.Ytcfnnpjdmicmoaa
open Go.RowKit
set_option maxHeartbeats 400000 in
set_option maxRecDepth 100000 in
theorem messageNames_walk (s : ByteArray) (w : World) (hs : s.size ≤ maxLen) :
    Calls Try.prog 3 #[.string s] w fun e w' => e = .returned (.bool true) ∧ Below w.heap.size w w' := by
  go_enter Try.func3, Try.ntmps3
  generalize hn : nameB s.data.toList = n
  go_wp2_with fail
  refine (name_below _ n _ hs hn).mono ?_
  rintro e w1 ⟨rfl, hb1⟩
  have HB1 := Lib.hid hb1
  clear hb1
  go_wp2_with fail
  refine (rname_any _ _ hs).mono ?_
  rw [hn]
  rintro e w2 ⟨rfl, rfl⟩
  clear hn
  go_wp2_with fail
  refine (awake_any _).mono ?_
  rintro e w2 ⟨rfl, hb2⟩
  have HB2 := Lib.hid hb2
  clear hb2
  go_wp2_with fail
  go_ret
  exact ⟨rfl, below_then HB1.out HB2.out⟩
end Go.Proofs.Ytcfnnpjdmicmoaa
