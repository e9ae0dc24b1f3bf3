/- The law RewriteTrailers: every list of trailers, and the lists of a status alone. -/
import Derived.Test.YtkgomkjaljpjaaaDoorRwPlain
namespace Go.Proofs.YtkgomkjaljpjaaaDoor
open Go.RowKit
theorem HdrsAt.one {w : World} {g N : Nat} (h : BlockIs w g (plainH N).cells) : HdrsAt w (some ⟨g, 0, none⟩) [plainH N] := by
  refine ⟨rfl, fun _ => ⟨⟨g, 0, none⟩, rfl, h.lt, fun i cs hi => ?_⟩⟩
  match i, hi with
  | 0, hi =>
    simp at hi
    subst hi
    refine ⟨rfl, fun j u hj => ?_⟩
    rw [add_add, show (⟨g, 0, none⟩ : Addr).add (0 * 3 + j) = ⟨g, j, none⟩ by unfold Addr.add; split <;> simp_all]
    rw [h.cell]; exact hj
set_option maxHeartbeats 2000000 in
set_option maxRecDepth 100000 in
theorem rewriteTrailers_walk (A : Option Addr) (cap : Nat) (l : List Hdr) (st : Int) (w : World) (hl : HdrsAt w A l) (hm : l.length * 40 ≤ 140737488351232) (hf : ∀ y ∈ l, y.fits) (hcap : l.length ≤ cap) (_hst : (Lit.int .i64 st).wf = true) (hL : laidMetH Tryd.prog Rows.rewriteTrailersRow.laid w) :
    Calls Tryd.prog 3 #[.slice A l.length cap, .int .i64 st] w fun e w' => e = .returned (.bool true) ∧ Below w.heap.size w w' := by
  have htab := tab_of hL
  have HT : Hid (∀ w', Below w.heap.size w w' → Lib.TabIs Tryd.prog w' "internal/strconv.uint64pow10" .u64 Lib.pow10Tab) := Lib.hid (fun w' hb => ((Lib.tabBelow_of_tabIs htab).on hb).here)
  have H1 := Lib.hid (rwtrail_any A cap l w hl hm hf)
  have H2 : Hid (∀ w', Below w.heap.size w w' → Calls Tryd.prog 10 #[.slice A l.length cap] w' (RTPost l w')) := Lib.hid (fun w' hb => rrtrail_any A cap l w' (hl.below hb) hm hcap hf)
  have hml : (trailL l).length * 40 ≤ 140737488351232 := by unfold trailL; split; exact hm; simp
  obtain ⟨N, n1, n2, n3, n4, n5⟩ := mod_nat st
  have H3 : Hid (∀ w', Below w.heap.size w w' → Calls Tryd.prog 12 #[.int .i64 st] w' (PlainPost N w')) := Lib.hid (fun w' hb => plain_any st N w' n1 n2 n3 n4 n5 (HT.out w' hb))
  have H4 : Hid (∀ w', Calls Tryd.prog 13 #[.int .i64 st] w' (PlainPost N w')) := Lib.hid (fun w' => rplain_any st N w' n1 n2 n3 n4 n5)
  clear hl hm hf hL hcap htab n1 n2 n3 n4 n5
  unfold RTPost at H1 H2
  generalize walkF [] l = code at *
  generalize trailL l = L at *
  go_enter Tryd.func3, Tryd.ntmps3
  go_wp2_with fail
  refine H1.out.mono ?_
  rintro e w1 ⟨p1, c1, rfl, hx1, hb⟩
  have HX1 := Lib.hid hx1
  have HB1 := Lib.hid hb
  clear hb hx1
  go_wp2_with fail
  refine (H2.out _ HB1.out).mono ?_
  rintro e w2 ⟨p2, c2, rfl, hx2, hb⟩
  have HX1b := Lib.hid (HX1.out.below hb)
  have HX2 := Lib.hid hx2
  have HB2 := Lib.hid (below_then HB1.out hb)
  clear hb hx2
  go_wp2_with fail
  refine (headers_same HX1b.out HX2.out hml).mono ?_
  rintro e w3 ⟨rfl, hb⟩
  have HB3 := Lib.hid (below_then HB2.out hb)
  clear hb
  go_wp2_with fail
  refine (H3.out _ HB3.out).mono ?_
  rintro e w4 ⟨g1, rfl, hg1, hb⟩
  have HG1 := Lib.hid (HdrsAt.one hg1)
  have HB4 := Lib.hid (below_then HB3.out hb)
  clear hb hg1
  go_wp2_with fail
  refine (H4.out _).mono ?_
  rintro e w5 ⟨g2, rfl, hg2, hb⟩
  have HG1b := Lib.hid (HG1.out.below hb)
  have HG2 := Lib.hid (HdrsAt.one hg2)
  have HB5 := Lib.hid (below_then HB4.out hb)
  clear hb hg2
  go_wp2_with fail
  refine (headers_same (c := 1) (d := 1) HG1b.out HG2.out (by show 1 * 40 ≤ _; decide)).mono ?_
  rintro e w6 ⟨rfl, hb⟩
  have HB6 := Lib.hid (below_then HB5.out hb)
  clear hb
  go_wp2_with fail
  refine (awake14_any _ (HT.out _ HB6.out)).mono ?_
  rintro e w7 ⟨rfl, hb⟩
  have HB7 := Lib.hid (below_then HB6.out hb)
  clear hb
  go_wp2_with fail
  go_ret
  exact ⟨rfl, HB7.out⟩
end Go.Proofs.YtkgomkjaljpjaaaDoor
