/- The law StreamZero: streams that nobody made answer nothing. -/
import Derived.Test.YtpnghehigffcdaaStrZero
namespace Go.Proofs.Ytpnghehigffcdaa
open Go.RowKit
theorem bl_keep {w w' : World} {b : Nat} {cs : List Value} (h : BlockIs w b cs) (k : Below w.heap.size w w') : BlockIs w' b cs := h.keeps (Keeps.of_below (S := fun _ => False) k) (fun h => h)
set_option maxHeartbeats 4000000 in
set_option maxRecDepth 100000 in
theorem streamZero_walk (id what : Int) (w : World) (_h : (Lit.int .i64 id).wf = true) (_h2 : (Lit.int .i64 what).wf = true) :
    Calls Try.prog 7 #[.int .i64 id, .int .i64 what] w fun e w' => e = .returned (.bool true) ∧ Below w.heap.size w w' := by
  go_enter Try.func7, Try.ntmps7
  go_wp2_with fail
  have Z0 : BlockIs (w.alloc (.cells Try.zeroCells59 59)) w.heap.size Try.zeroCells59.toList := BlockIs.new w Try.zeroCells59.toList _
  have Z0 := Lib.hid Z0
  refine (zpeer id _).mono ?_
  rintro e w1 ⟨rfl, hb⟩
  have B1 := Lib.hid (below_then (below_al (Below.refl w.heap.size w) _) hb)
  have Z1 := Lib.hid (bl_keep Z0.out hb)
  have t0 : w1.cell? ⟨w.heap.size, 0, none⟩ = some (.bool false) := Z1.out.cell 0
  have T0 := Lib.hid t0
  clear hb t0
  go_wp2_with fail
  refine (zown w.heap.size _ (((Z1.out.alloc _).cell 0).trans rfl)).mono ?_
  rintro e w2 ⟨rfl, hb⟩
  have B2 := Lib.hid (below_then (below_al B1.out _) hb)
  have Z2 := Lib.hid (bl_keep (Z1.out.alloc _) hb)
  have P2 := Lib.hid (bl_keep (BlockIs.new w1 [.bool true, .int .i64 0, .int .i64 2] 36) hb)
  clear hb
  go_wp2_with fail
  refine (zdo id what _).mono ?_
  rintro e w3 ⟨rfl, hb⟩
  have B3 := Lib.hid (below_then B2.out hb)
  have Z3 := Lib.hid (bl_keep Z2.out hb)
  have P3 := Lib.hid (bl_keep P2.out hb)
  have y0 := P3.out.cell 0
  have y2 := P3.out.cell 2
  have yl := P3.out.lt
  simp only [List.getElem?_cons_zero, List.getElem?_cons_succ] at y0 y2
  clear hb
  go_wp2_with fail
  refine (zlimit w.heap.size id _ (((Z3.out.alloc _).cell 0).trans rfl)).mono ?_
  rintro e w4 ⟨rfl, hb⟩
  have B4 := Lib.hid (below_then (below_al B3.out _) hb)
  have Z4 := Lib.hid (bl_keep (Z3.out.alloc _) hb)
  clear hb
  go_wp2_with fail
  refine (zstate id _).mono ?_
  rintro e w5 ⟨rfl, hb⟩
  have B5 := Lib.hid (below_then B4.out hb)
  have Z5 := Lib.hid (bl_keep Z4.out hb)
  clear hb
  go_wp2_with fail
  refine (zdropped w.heap.size id _ ((Z5.out.cell 0).trans rfl)).mono ?_
  rintro e w6 ⟨rfl, hb⟩
  have B6 := Lib.hid (below_then B5.out hb)
  have Z6 := Lib.hid (bl_keep Z5.out hb)
  clear hb
  go_wp2_with fail
  refine (zopen true _).mono ?_
  rintro e w7 ⟨rfl, hb⟩
  have B7 := Lib.hid (below_then B6.out hb)
  have Z7 := Lib.hid (bl_keep Z6.out hb)
  clear hb
  go_wp2_with fail
  refine (zlast w.heap.size _ ((Z7.out.cell 0).trans rfl)).mono ?_
  rintro e w8 ⟨rfl, hb⟩
  have B8 := Lib.hid (below_then B7.out hb)
  clear hb
  go_wp2_with fail
  refine (zlist _).mono ?_
  rintro e w9 ⟨rfl, hb⟩
  have B9 := Lib.hid (below_then B8.out hb)
  clear hb
  go_wp2_with fail
  go_ret
  exact ⟨rfl, B9.out⟩
end Go.Proofs.Ytpnghehigffcdaa
