/- The law ScriptBack: the line of an event, read, is that event. -/
import Derived.Test.YtbjhmgdkjbphkaaDoorScrLine2
import Derived.Test.YtbjhmgdkjbphkaaDoorLawScriptPrints
set_option linter.unusedVariables false
set_option linter.unusedSimpArgs false
set_option linter.unusedSectionVars false
namespace Go.Proofs.YtbjhmgdkjbphkaaDoor
open Go.RowKit
theorem tabP_of3 {w : World} (hL : laidMetH Tryd.prog Rows.scriptBackRow.laid w) : tabP w :=
  Lib.tabIs_of_head (rest := []) (n := 20) (g := 3) (by kernel_rfl) (by kernel_rfl) (t := 140) (e := 118) (by kernel_rfl) (by kernel_rfl) (by kernel_rfl) (by kernel_rfl) (hL.filter fun x => x.1 == "internal/strconv.uint64pow10")
set_option maxRecDepth 100000 in
theorem tabS_of3 {w : World} (hL : laidMetH Tryd.prog Rows.scriptBackRow.laid w) : tabS w :=
  Lib.tabIs_of_head (rest := []) (n := 256) (g := 1) (by kernel_rfl) (by kernel_rfl) (t := 89) (e := 5) (by kernel_rfl) (by kernel_rfl) (by kernel_rfl) (by kernel_rfl) (hL.filter fun x => x.1 == "strings.asciiSpace")
theorem cutOk_of {w : World} (h : w.ShapedOpen Tryd.prog) : CutOk w := by
  obtain ⟨m, hm⟩ := (Tryd.laysM145).s1_3 w h
  exact ⟨m, hm⟩
set_option maxHeartbeats 1000000 in
set_option maxRecDepth 100000 in
theorem scriptBack_walk (what a b d : Int) (A : Option Addr) (cap : Nat) (l : List Int) (w : World) (hl : BytesAt w A l) (hm : l.length * 1 ≤ 140737488351232) (hw : ∀ y ∈ l, (Lit.int .u8 y).wf = true) (hc : CutOk w) (hL : laidMetH Tryd.prog Rows.scriptBackRow.laid w) :
    Calls Tryd.prog 5 #[.agg #[.int .i64 what, .int .i64 a, .int .i64 b, .int .i64 d, .slice A l.length cap]] w fun e w' => e = .returned (.bool true) ∧ Below w.heap.size w w' := by
  have ht1 := tabS_of3 hL
  have ht2 := tabP_of3 hL
  have T1 := Lib.hid (fun w' (hb : Below w.heap.size w w') => tabS_below ht1 hb)
  have T2 := Lib.hid (fun w' (hb : Below w.heap.size w w') => tabP_below ht2 hb)
  have T3 := Lib.hid (fun w' (hb : Below w.heap.size w w') => hc.below hb)
  have HL := Lib.hid (fun w' (hb : Below w.heap.size w w') => hl.below hb)
  have HA := Lib.hid (fun w' (hb : Below w.heap.size w w') => awake23_any w' (T1.out w' hb) (T2.out w' hb))
  have HW := Lib.hid hw
  have H1 := Lib.hid (fun w' (hb : Below w.heap.size w w') => print_any what a b d A cap l w' (HL.out w' hb) (by omega) hw (T1.out w' hb) (T2.out w' hb))
  have BB := Lib.hid (below_al (Below.refl w.heap.size w) (.cells #[.int .i64 what, .int .i64 a, .int .i64 b, .int .i64 d, .slice A l.length cap] 24))
  have BX := Lib.hid (BlockIs.new w [.int .i64 what, .int .i64 a, .int .i64 b, .int .i64 d, .slice A l.length cap] 24)
  clear hl hw hL ht1 ht2 hc
  by_cases hE : ∃ c : Int, printF what a b d l = (⟨#[]⟩, c) ∧ c ≠ 0
  · obtain ⟨c, hR, hc0⟩ := hE
    rw [hR] at H1
    clear hR
    go_enter Tryd.func5, Tryd.ntmps5
    have x0 := BX.out.cell 0
    have x1 := BX.out.cell 1
    have x2 := BX.out.cell 2
    have x3 := BX.out.cell 3
    have x4 := BX.out.cell 4
    simp only [List.getElem?_cons_zero, List.getElem?_cons_succ] at x0 x1 x2 x3 x4
    have xl := BX.out.lt
    go_wp2_with fail
    refine (H1.out _ BB.out).mono ?_
    rintro e w1 ⟨rfl, hb1⟩
    have HB1 := Lib.hid (below_then BB.out hb1)
    have BX1 := Lib.hid (BX.out.below hb1)
    clear hb1
    go_wp2_with fail
    refine (HA.out _ HB1.out).mono ?_
    rintro e w3 ⟨rfl, hb3⟩
    have HB3 := Lib.hid (below_then HB1.out hb3)
    clear hb3
    go_wp2_with fail
    go_ret
    exact ⟨rfl, HB3.out⟩
  · have hok : printOk what a b d = true := by
      cases h : printOk what a b d with
      | true => rfl
      | false => exact absurd ⟨4, by unfold printF; rw [if_pos h], by decide⟩ hE
    have hok2 := hok
    unfold printOk fineK at hok2
    simp only [Bool.and_eq_true, decide_eq_true_eq] at hok2
    have hwh : 0 ≤ what ∧ what < 8 := by simp_all
    clear hok2
    obtain ⟨m, rfl⟩ := Int.eq_ofNat_of_zero_le hwh.1
    have hm8 : m < 8 := by omega
    have hlen : (lineT m a b d l).length ≤ 65536 := by
      by_cases h0 : l = []
      · subst h0; exact line_short m hm8 a b d hok
      · by_cases h : 65536 < (lineT (m : Int) a b d l).length
        · exact absurd ⟨2, by unfold printF; rw [if_neg (by rw [hok]; decide), if_pos ⟨h0, h⟩], by decide⟩ hE
        · omega
    have hR : printF (m : Int) a b d l = (⟨(lineT m a b d l).toArray⟩, 0) := by
      unfold printF
      rw [if_neg (by rw [hok]; decide), if_neg (by omega)]
    rw [hR] at H1
    clear hE hR hwh
    have H2 := Lib.hid (fun w' (hb : Below w.heap.size w w') => Line_walk m hm8 a b d hok l w' HW.out hlen (T1.out w' hb) (T2.out w' hb) (T3.out w' hb))
    clear hok hlen
    generalize (⟨(lineT m a b d l).toArray⟩ : ByteArray) = S at *
    go_enter Tryd.func5, Tryd.ntmps5
    have x0 := BX.out.cell 0
    have x1 := BX.out.cell 1
    have x2 := BX.out.cell 2
    have x3 := BX.out.cell 3
    have x4 := BX.out.cell 4
    simp only [List.getElem?_cons_zero, List.getElem?_cons_succ] at x0 x1 x2 x3 x4
    have xl := BX.out.lt
    go_wp2_with fail
    refine (H1.out _ BB.out).mono ?_
    rintro e w1 ⟨rfl, hb1⟩
    have HB1 := Lib.hid (below_then BB.out hb1)
    have BX1 := Lib.hid (BX.out.below hb1)
    clear hb1
    go_wp2_with fail
    refine (H2.out _ HB1.out).mono ?_
    rintro e w2 ⟨v, rfl, ho2, hb2⟩
    obtain ⟨p, n, cp, rfl⟩ := owns_slice ho2
    have HO := Lib.hid ho2
    have BX2 := Lib.hid (BX1.out.below hb2)
    have HB2 := Lib.hid (below_then HB1.out hb2)
    clear hb2 ho2
    have y0 := BX2.out.cell 0
    have y1 := BX2.out.cell 1
    have y2 := BX2.out.cell 2
    have y3 := BX2.out.cell 3
    have y4 := BX2.out.cell 4
    simp only [List.getElem?_cons_zero, List.getElem?_cons_succ] at y0 y1 y2 y3 y4
    have yl := BX2.out.lt
    go_wp2_with fail
    have HB2x := Lib.hid (below_al HB2.out (.cells #[.int .i64 m, .int .i64 a, .int .i64 b, .int .i64 d, .slice p n cp] 24))
    refine (same23_any m a b d A cap l p n cp _ _ (HL.out _ HB2x.out) HW.out (OwnsU.below HO.out (below_al (Below.refl _ _) _))).mono ?_
    rintro e w4 ⟨rfl, hb4⟩
    have HB4 := Lib.hid (below_then HB2x.out hb4)
    clear hb4
    go_wp2_with fail
    refine (HA.out _ HB4.out).mono ?_
    rintro e w3 ⟨rfl, hb3⟩
    have HB3 := Lib.hid (below_then HB4.out hb3)
    clear hb3
    go_wp2_with fail
    go_ret
    exact ⟨rfl, HB3.out⟩
end Go.Proofs.YtbjhmgdkjbphkaaDoor
