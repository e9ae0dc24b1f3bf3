/- The law ScriptPrints: events as text. -/
import Derived.Test.YtbjhmgdkjbphkaaDoorScrRPrint
import Derived.Test.YtbjhmgdkjbphkaaDoorScrIn
import Derived.Test.YtbjhmgdkjbphkaaDoorRows
import Derived.Lib.LaidTab
import Derived.LaidSub
set_option linter.unusedVariables false
set_option linter.unusedSimpArgs false
set_option linter.unusedSectionVars false
namespace Go.Proofs.YtbjhmgdkjbphkaaDoor
open Go.RowKit
theorem tabP_of {w : World} (hL : laidMetH Tryd.prog Rows.scriptPrintsRow.laid w) : tabP w :=
  Lib.tabIs_of_head (rest := []) (n := 20) (g := 3) (by kernel_rfl) (by kernel_rfl) (t := 140) (e := 118) (by kernel_rfl) (by kernel_rfl) (by kernel_rfl) (by kernel_rfl) (hL.filter fun x => x.1 == "internal/strconv.uint64pow10")
set_option maxRecDepth 100000 in
theorem tabS_of {w : World} (hL : laidMetH Tryd.prog Rows.scriptPrintsRow.laid w) : tabS w :=
  Lib.tabIs_of_head (rest := []) (n := 256) (g := 1) (by kernel_rfl) (by kernel_rfl) (t := 89) (e := 5) (by kernel_rfl) (by kernel_rfl) (by kernel_rfl) (by kernel_rfl) (hL.filter fun x => x.1 == "strings.asciiSpace")
theorem print_b : printF 3 1 50 0 [] = (⟨#[98, 117, 100, 103, 101, 116, 32, 49, 32, 53, 48]⟩, 0) := by decide +kernel
set_option maxHeartbeats 1000000 in
set_option maxRecDepth 100000 in
theorem awake23_any (w : World) (ht1 : tabS w) (ht2 : tabP w) : Calls Tryd.prog 8 #[] w fun e w' => e = .returned (.bool true) ∧ Below w.heap.size w w' := by
  have H := Lib.hid (print_any 3 1 50 0 none 0 [] w ⟨rfl, fun h => absurd h (Nat.lt_irrefl _)⟩ (by simp) (fun y hy => by cases hy) ht1 ht2)
  rw [print_b] at H
  go_enter Tryd.func8, Tryd.ntmps8
  go_wp2_with fail
  refine H.out.mono ?_
  rintro e w1 ⟨rfl, hb⟩
  have HB := Lib.hid hb
  clear hb
  go_wp2_with fail
  go_ret
  exact ⟨rfl, HB.out⟩
set_option maxHeartbeats 1000000 in
set_option maxRecDepth 100000 in
theorem scriptPrints_walk (what a b d : Int) (A : Option Addr) (cap : Nat) (l : List Int) (w : World) (hl : BytesAt w A l) (hm : l.length * 1 ≤ 140737488351232) (hw : ∀ y ∈ l, (Lit.int .u8 y).wf = true) (hL : laidMetH Tryd.prog Rows.scriptPrintsRow.laid w) :
    Calls Tryd.prog 3 #[.agg #[.int .i64 what, .int .i64 a, .int .i64 b, .int .i64 d, .slice A l.length cap]] w fun e w' => e = .returned (.bool true) ∧ Below w.heap.size w w' := by
  have ht1 := tabS_of hL
  have ht2 := tabP_of hL
  have T1 := Lib.hid (fun w' (hb : Below w.heap.size w w') => tabS_below ht1 hb)
  have T2 := Lib.hid (fun w' (hb : Below w.heap.size w w') => tabP_below ht2 hb)
  have HL := Lib.hid (fun w' (hb : Below w.heap.size w w') => hl.below hb)
  have BB : Hid (Below w.heap.size w (w.alloc (.cells #[.int .i64 what, .int .i64 a, .int .i64 b, .int .i64 d, .slice A l.length cap] 24))) := Lib.hid (below_al (Below.refl _ _) _)
  have BX := Lib.hid (BlockIs.new w [.int .i64 what, .int .i64 a, .int .i64 b, .int .i64 d, .slice A l.length cap] 24)
  have H1 := Lib.hid (fun w' (hb : Below w.heap.size w w') => print_any what a b d A cap l w' (HL.out w' hb) (by omega) hw (T1.out w' hb) (T2.out w' hb))
  have H2 := Lib.hid (fun w' (hb : Below w.heap.size w w') => rprint_any what a b d A cap l w' (HL.out w' hb) (by omega) hw)
  clear hl hw hL ht1 ht2 HL
  generalize printF what a b d l = R at *
  obtain ⟨S, c⟩ := R
  simp only at H1 H2
  go_enter Tryd.func3, Tryd.ntmps3
  have x0 := BX.out.cell 0
  have x1 := BX.out.cell 1
  have x2 := BX.out.cell 2
  have x3 := BX.out.cell 3
  have x4 := BX.out.cell 4
  simp only [List.getElem?_cons_zero, List.getElem?_cons_succ] at x0 x1 x2 x3 x4
  have xl := BX.out.lt
  go_wp2_with fail
  refine (H1.out _ BB.out).mono ?_
  rintro e w1 ⟨rfl, hb1⟩
  have HB1 := Lib.hid (below_then BB.out hb1)
  have BX1 := Lib.hid (BX.out.below hb1)
  have y0 := BX1.out.cell 0
  have y1 := BX1.out.cell 1
  have y2 := BX1.out.cell 2
  have y3 := BX1.out.cell 3
  have y4 := BX1.out.cell 4
  simp only [List.getElem?_cons_zero, List.getElem?_cons_succ] at y0 y1 y2 y3 y4
  have yl := BX1.out.lt
  clear hb1
  go_wp2_with fail
  refine (H2.out _ HB1.out).mono ?_
  rintro e w2 ⟨rfl, hb2⟩
  have HB2 := Lib.hid (below_then HB1.out hb2)
  clear hb2
  have HA := Lib.hid (awake23_any w2 (T1.out _ HB2.out) (T2.out _ HB2.out))
  go_wp2_with fail
  refine HA.out.mono ?_
  rintro e w3 ⟨rfl, hb3⟩
  have HB3 := Lib.hid (below_then HB2.out hb3)
  clear hb3
  go_wp2_with fail
  go_ret
  exact ⟨rfl, HB3.out⟩
end Go.Proofs.YtbjhmgdkjbphkaaDoor
