/- The law RewriteRetries: which requests may be sent again. -/
import Derived.Test.YtjlbngkecpaiaaaDoorRwRetry
import Derived.Test.YtjlbngkecpaiaaaDoorObj
import Derived.Test.YtjlbngkecpaiaaaDoorShelf
import Derived.Test.YtjlbngkecpaiaaaDoorRows
import Derived.Lib.LaidTab
import Derived.LaidSub
import Derived.Lib.AppendIntMem
namespace Go.Proofs.YtjlbngkecpaiaaaDoor
open Go.RowKit
def PlainPost (w : World) (e : Ending) (w' : World) : Prop := ∃ g, e = .returned (.slice (some ⟨g, 0, none⟩) 1 1) ∧ BlockIs w' g [.string ⟨#[58, 115, 116, 97, 116, 117, 115]⟩, .string ⟨#[53, 48, 50]⟩, .bool false] ∧ Below w.heap.size w w'
set_option maxHeartbeats 1000000 in
set_option maxRecDepth 100000 in
theorem plain_any (w : World) (htab : Lib.TabIs Tryd.prog w "internal/strconv.uint64pow10" .u64 Lib.pow10Tab) : Calls Tryd.prog 13 #[.int .i64 502] w (PlainPost w) := by
  have HT := Lib.hid htab
  clear htab
  go_enter Tryd.func13, Tryd.ntmps13
  go_wp2_with fail
  refine (Tryd.strconv_Itoa 1502 (by omega) (by omega) _ HT.out).mono ?_
  rw [show (⟨(Lib.itoa 1502).toArray⟩ : ByteArray) = ⟨#[49, 53, 48, 50]⟩ by kernel_rfl]
  rintro e w1 ⟨rfl, k, os, hw⟩
  have HB : Hid (Below w.heap.size w w1) := Lib.hid (by rw [hw]; exact Lib.below_grow _ _ (Nat.le_refl _) _ _)
  clear hw
  go_wp2_with fail
  go_ret
  exact ⟨_, rfl, BlockIs.new w1 [.string ⟨#[58, 115, 116, 97, 116, 117, 115]⟩, .string ⟨#[53, 48, 50]⟩, .bool false] _, below_al HB.out _⟩
theorem tab_of {w : World} (hL : laidMetH Tryd.prog Rows.rewriteRetriesRow.laid w) : Lib.TabIs Tryd.prog w "internal/strconv.uint64pow10" .u64 Lib.pow10Tab :=
  Lib.tabIs_of_head (rest := []) (n := 20) (g := 0) (by kernel_rfl) (by kernel_rfl) (t := 113) (e := 90) (by kernel_rfl) (by kernel_rfl) (by kernel_rfl) (by kernel_rfl) (hL.filter fun x => x.1 == "internal/strconv.uint64pow10")
set_option maxHeartbeats 1000000 in
set_option maxRecDepth 100000 in
theorem awake_any (w : World) (htab : Lib.TabIs Tryd.prog w "internal/strconv.uint64pow10" .u64 Lib.pow10Tab) : Calls Tryd.prog 9 #[] w fun e w' => e = .returned (.bool true) ∧ Below w.heap.size w w' := by
  have HT := Lib.hid htab
  clear htab
  go_enter Tryd.func9, Tryd.ntmps9
  go_wp2_with fail
  refine (plain_any _ HT.out).mono ?_
  rintro e w1 ⟨g, rfl, hb, hl⟩
  have y0 := hb.cell 0
  have y1 := hb.cell 1
  have yl := hb.lt
  simp only [List.getElem?_cons_zero, List.getElem?_cons_succ] at y0 y1
  have HB := Lib.hid hl
  clear hb hl
  go_wp2_with fail
  go_ret
  exact ⟨rfl, HB.out⟩
set_option maxHeartbeats 1000000 in
set_option maxRecDepth 100000 in
theorem rewriteRetries_walk (A : Option Addr) (cap : Nat) (l : List Hdr) (w : World) (hl : HdrsAt w A l) (hm : l.length * 40 ≤ 140737488351232) (_hf : ∀ y ∈ l, y.fits) (hL : laidMetH Tryd.prog Rows.rewriteRetriesRow.laid w) :
    Calls Tryd.prog 3 #[.slice A l.length cap] w fun e w' => e = .returned (.bool true) ∧ Below w.heap.size w w' := by
  have hlen : l.length ≤ maxLen := by unfold maxLen; omega
  have HL := Lib.hid hl
  have HT := Lib.hid (tab_of hL)
  clear hl hm hL
  go_enter Tryd.func3, Tryd.ntmps3
  go_wp2_with fail
  refine (retry_any A cap l _ HL.out hlen).mono ?_
  generalize hr : retryB (findH protoK l) (findH methodK l) = r
  rintro e w1 ⟨rfl, hb1⟩
  have HB1 := Lib.hid hb1
  clear hb1
  go_wp2_with fail
  refine (rretry_any A cap l _ (HL.out.below HB1.out) hlen).mono ?_
  rw [hr]
  rintro e w2 ⟨rfl, rfl⟩
  clear hr
  go_wp2_with fail
  refine (awake_any _ ((Lib.tabBelow_of_tabIs HT.out).on HB1.out).here).mono ?_
  rintro e w2 ⟨rfl, hb2⟩
  have HB2 := Lib.hid (below_then HB1.out hb2)
  clear hb2
  go_wp2_with fail
  go_ret
  exact ⟨rfl, HB2.out⟩
end Go.Proofs.YtjlbngkecpaiaaaDoor
