/- The law ScriptTolds: what was done, as text. -/
import Derived.Test.YtbjhmgdkjbphkaaDoorScrRTold
import Derived.Test.YtbjhmgdkjbphkaaDoorScrOut
import Derived.Test.YtbjhmgdkjbphkaaDoorLawScriptPrints
set_option linter.unusedVariables false
set_option linter.unusedSimpArgs false
set_option linter.unusedSectionVars false
namespace Go.Proofs.YtbjhmgdkjbphkaaDoor
open Go.RowKit
theorem tabP_of2 {w : World} (hL : laidMetH Tryd.prog Rows.scriptToldsRow.laid w) : tabP w :=
  Lib.tabIs_of_head (rest := []) (n := 20) (g := 3) (by kernel_rfl) (by kernel_rfl) (t := 140) (e := 118) (by kernel_rfl) (by kernel_rfl) (by kernel_rfl) (by kernel_rfl) (hL.filter fun x => x.1 == "internal/strconv.uint64pow10")
set_option maxRecDepth 100000 in
theorem tabS_of2 {w : World} (hL : laidMetH Tryd.prog Rows.scriptToldsRow.laid w) : tabS w :=
  Lib.tabIs_of_head (rest := []) (n := 256) (g := 1) (by kernel_rfl) (by kernel_rfl) (t := 89) (e := 5) (by kernel_rfl) (by kernel_rfl) (by kernel_rfl) (by kernel_rfl) (hL.filter fun x => x.1 == "strings.asciiSpace")
set_option maxHeartbeats 1000000 in
set_option maxRecDepth 100000 in
theorem scriptTolds_walk (A : Option Addr) (cap : Nat) (l : List Out3) (w : World) (hl : OutsAt w A l) (hw : ∀ o ∈ l, o.fits) (hm : bulkO l ≤ 1048576) (hL : laidMetH Tryd.prog Rows.scriptToldsRow.laid w) :
    Calls Tryd.prog 4 #[.slice A l.length cap] w fun e w' => e = .returned (.bool true) ∧ Below w.heap.size w w' := by
  have ht1 := tabS_of2 hL
  have ht2 := tabP_of2 hL
  have H1 := Lib.hid (told_walk A cap l w hl hw hm ht2)
  have H2 := Lib.hid (fun w' (hb : Below w.heap.size w w') => rtold_walk A cap l w' (hl.below hb) hw hm)
  have H3 := Lib.hid (fun w' (hb : Below w.heap.size w w') => awake23_any w' (tabS_below ht1 hb) (tabP_below ht2 hb))
  clear hl hw hm hL ht1 ht2
  generalize (⟨(toldL l).toArray⟩ : ByteArray) = S at *
  go_enter Tryd.func4, Tryd.ntmps4
  go_wp2_with fail
  refine H1.out.mono ?_
  rintro e w1 ⟨rfl, hb1⟩
  have HB1 := Lib.hid hb1
  clear hb1
  go_wp2_with fail
  refine (H2.out _ HB1.out).mono ?_
  rintro e w2 ⟨rfl, hb2⟩
  have HB2 := Lib.hid (below_then HB1.out hb2)
  clear hb2
  go_wp2_with fail
  refine (H3.out _ HB2.out).mono ?_
  rintro e w3 ⟨rfl, hb3⟩
  have HB3 := Lib.hid (below_then HB2.out hb3)
  clear hb3
  go_wp2_with fail
  go_ret
  exact ⟨rfl, HB3.out⟩
end Go.Proofs.YtbjhmgdkjbphkaaDoor
