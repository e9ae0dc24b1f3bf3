/- The law RewriteRequests: every request as it is passed on. -/
import Derived.Test.YtfljibjjpgdmhaaGreatDoorRwRef3
import Derived.Test.YtfljibjjpgdmhaaGreatDoorRwPlain
import Derived.Test.YtfljibjjpgdmhaaGreatDoorRwBulk
set_option linter.unusedVariables false
set_option linter.unusedSimpArgs false
set_option linter.unusedSectionVars false
namespace Go.Proofs.YtfljibjjpgdmhaaGreatDoor
open Go.RowKit
theorem tab_requests {w : World} (hL : laidMetH Tryz.prog Rows.rewriteRequestsRow.laid w) : Lib.TabIs Tryz.prog w "internal/strconv.uint64pow10" .u64 Lib.pow10Tab :=
  Lib.tabIs_of_head (rest := []) (n := 20) (g := 2) (by kernel_rfl) (by kernel_rfl) (t := 137) (e := 113) (by kernel_rfl) (by kernel_rfl) (by kernel_rfl) (by kernel_rfl) (hL.filter fun x => x.1 == "internal/strconv.uint64pow10")
set_option maxHeartbeats 4000000 in
set_option maxRecDepth 100000 in
theorem rewriteRequests_walk (A : Option Addr) (cap : Nat) (l : List Hdr) (name : ByteArray) (w : World) (hl : HdrsAt w A l) (hbk : bulkH l ≤ 1048576) (hcap : l.length ≤ cap) (hnil : A = none → cap = 0) (hnm : name.size ≤ 1048576) (hL : laidMetH Tryz.prog Rows.rewriteRequestsRow.laid w) :
    Calls Tryz.prog 4 #[.slice A l.length cap, .string name] w fun e w' => e = .returned (.bool true) ∧ Below w.heap.size w w' := by
  have hlen := bulk_len l
  have htab := tab_requests hL
  have HT : Hid (∀ w', Below w.heap.size w w' → Lib.TabIs Tryz.prog w' "internal/strconv.uint64pow10" .u64 Lib.pow10Tab) := Lib.hid (fun w' hb => ((Lib.tabBelow_of_tabIs htab).on hb).here)
  have HL := Lib.hid hl
  have HRR : Hid (∀ w', Below w.heap.size w w' → Calls Tryz.prog 11 #[.slice A l.length cap, .string name] w' (PassPost (rqF l name) w')) := Lib.hid (fun w' hb => rrwreq_any A cap l name w' (hl.below hb) (by omega) hcap hnm)
  have HRL := Lib.hid (rqF_len l name (by omega))
  clear hl hL htab
  go_enter Tryz.func4, Tryz.ntmps4
  have HB0 : Hid (Below w.heap.size w (w.alloc (.cells #[] 35))) := Lib.hid (below_al (Below.refl _ _) _)
  have HO0 : Hid (OwnsH w.heap.size (w.alloc (.cells #[] 35)) (.slice (some ⟨w.heap.size, 0, none⟩) 0 0) []) := Lib.hid (World.ownsRow_made w #[] 0 (Nat.le_refl _) (Nat.zero_le _) (by simp))
  go_wp2_with (first | (at_builtin; refine wpList_appendH rfl _ _ rfl w.heap.size (.slice (some ⟨w.heap.size, 0, none⟩) 0 0) [] rfl HO0.out A cap l rfl (HL.out.below HB0.out) hnil (by simp; omega) (by simp) ?_; intro v2 w2 ho2 hg2; have HB2 : Hid (Below w.heap.size w w2) := Lib.hid (Below.grown HB0.out hg2 (by simp) (fun q e => by cases e; exact Nat.le_refl _)); obtain ⟨p2, c2, rfl, hm2, hc2⟩ := own_hdrs (show OwnsH w.heap.size w2 v2 l from ho2); have HM2 := Lib.hid hm2; clear ho2 hg2 hm2))
  refine (rwreq_any p2 c2 l name w2 HM2.out (by omega) hnm).mono ?_
  rintro e w3 ⟨p3, c3, rfl, hh3, hc3, hb3⟩
  have HX3 := Lib.hid hh3
  have HM3 := Lib.hid (HM2.out.below hb3)
  have HB3 := Lib.hid (below_then HB2.out hb3)
  clear hh3 hb3
  generalize rqF l name = r at *
  obtain ⟨x, ex⟩ := r
  have hxl := HRL.out
  go_wp2_with fail
  refine (HRR.out _ HB3.out).mono ?_
  rintro e w4 ⟨p4, c4, rfl, hh4, hc4, hb4⟩
  have HX4 := Lib.hid (HX3.out.below hb4)
  have HM4 := Lib.hid (HM3.out.below hb4)
  have HY4 := Lib.hid hh4
  have HB4 := Lib.hid (below_then HB3.out hb4)
  clear hh4 hb4
  go_wp2_with fail
  refine (headers_same HX4.out HY4.out (by omega)).mono ?_
  rintro e w5 ⟨rfl, hb5⟩
  have HM5 := Lib.hid (HM4.out.below hb5)
  have HB5 := Lib.hid (below_then HB4.out hb5)
  clear hb5
  go_wp2_with fail
  refine (headers_same HM5.out (HL.out.below HB5.out) (by omega)).mono ?_
  rintro e w6 ⟨rfl, hb6⟩
  have HB6 := Lib.hid (below_then HB5.out hb6)
  clear hb6
  go_wp2_with fail
  refine (awake14_any _ (HT.out _ HB6.out)).mono ?_
  rintro e w7 ⟨rfl, hb7⟩
  have HB7 := Lib.hid (below_then HB6.out hb7)
  clear hb7
  go_wp2_with fail
  go_ret
  exact ⟨rfl, HB7.out⟩
end Go.Proofs.YtfljibjjpgdmhaaGreatDoor
