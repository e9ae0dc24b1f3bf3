/- The law MessageFinds: the program finds the first value of a name just as the reference does, in every list of headers. -/
import Derived.Test.YtcfnnpjdmicmoaaMsgName
import Derived.Test.YtcfnnpjdmicmoaaMsgFind
namespace Go.Proofs.Ytcfnnpjdmicmoaa
open Go.RowKit
set_option maxHeartbeats 400000 in
set_option maxRecDepth 100000 in
theorem messageFinds_walk (A : Option Addr) (cap : Nat) (l : List Hdr) (name : ByteArray) (w : World) (hl : HdrsAt w A l) (hm : l.length * 40 ≤ 140737488351232) (_hf : ∀ y ∈ l, y.fits) (_hn : name.size ≤ maxLen) (_hn' : name.size ≤ 140737488351232) :
    Calls Try.prog 4 #[.slice A l.length cap, .string name] w fun e w' => e = .returned (.bool true) ∧ Below w.heap.size w w' := by
  have hlen : l.length ≤ maxLen := by unfold maxLen; omega
  have HL := Lib.hid hl
  clear hl hm
  go_enter Try.func4, Try.ntmps4
  generalize hn : findH name l = r
  go_wp2_with fail
  refine (find_any A cap l name _ HL.out hlen).mono ?_
  rw [hn]
  rintro e w1 ⟨rfl, hb1⟩
  have HB1 := Lib.hid hb1
  clear hb1
  go_wp2_with fail
  refine (rfind_any A cap l name _ (HL.out.below HB1.out) hlen).mono ?_
  rw [hn]
  rintro e w2 ⟨rfl, rfl⟩
  clear hn
  go_wp2_with fail
  refine (awake_any _).mono ?_
  rintro e w2 ⟨rfl, hb2⟩
  have HB2 := Lib.hid hb2
  clear hb2
  go_wp2_with fail
  go_ret
  exact ⟨rfl, below_then HB1.out HB2.out⟩
end Go.Proofs.Ytcfnnpjdmicmoaa
